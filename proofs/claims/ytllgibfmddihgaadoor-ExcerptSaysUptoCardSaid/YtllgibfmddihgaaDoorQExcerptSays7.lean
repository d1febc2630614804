/-
  Texts of this proof, part 7: Tme Tmh Ab32.
-/
import Derived.Test.YtllgibfmddihgaaDoorQExcerptSays6
import Derived.Laws.Strings2
import Derived.Laws.StructEq
import Derived.Lib.AppendStr
import Derived.Lib.MinMax
import Derived.MapKept
namespace Go.Proofs.YtllgibfmddihgaaDoor
open Go.RowKit
theorem Us.mark_pos (x : Us) : 1 ≤ x.mark.length := by have := textB_pos x.name; simp only [Us.mark, List.length_append]; omega
theorem Mk.mark_pos (x : Mk) : 1 ≤ x.mark.length := by have := textB_pos x.name; simp only [Mk.mark, List.length_append]; omega
theorem Da.mark_pos (x : Da) : 1 ≤ x.mark.length := by have := textB_pos x.name; simp only [Da.mark, List.length_append]; omega
theorem Tr.mark_pos (x : Tr) : 1 ≤ x.mark.length := by have := textB_pos x.name; simp only [Tr.mark, List.length_append]; omega
theorem Im.mark_pos (x : Im) : 1 ≤ x.mark.length := by have := textB_pos x.trait; simp only [Im.mark, List.length_append]; omega
theorem Ac.mark_pos (x : Ac) : 1 ≤ x.mark.length := by have := textB_pos x.name; simp only [Ac.mark, List.length_append]; omega
theorem Fu.mark_pos (x : Fu) : 1 ≤ x.mark.length := by have := textB_pos x.name; simp only [Fu.mark, List.length_append]; omega
set_option maxRecDepth 100000 in
set_option maxHeartbeats 4000000 in
theorem funcsMark_af (l : List Fu) (hok : ∀ a ∈ l, a.ok) (hb : (funcsB l).length ≤ 1099511627776) : AF Tryd.prog 99 [Fu.row l] (· = .lit (.string (bs (funcsB l)))) := by
  have hm : funcsB l = numB (l.length : Nat) ++ l.flatMap Fu.mark := rfl
  rw [hm] at hb ⊢
  simp only [List.length_append] at hb
  have hll := len_flat_le Fu.mark Fu.mark_pos l
  have hN := num1_af (l.length : Nat) (inI_nat (by omega)) (by omega)
  clear hm hll
  generalize numB (l.length : Nat) = p1 at *
  refine af_enter tok Tryd.func99 Tryd.ntmps99 Tryd.results99 rfl (by kernel_rfl) rfl rfl fun F hX => ?_
  repeat (first | refine gG ?_ | refine zN1 (fun hlen => ?_) | refine zN2 (fun hlen => ?_) | refine zAl (fun _ => ?_))
  refine zCall (hN) ?_
  rintro _ rfl
  repeat (first | refine gG ?_ | refine zN1 (fun hlen => ?_) | refine zN2 (fun hlen => ?_) | refine zAl (fun _ => ?_))
  refine x_loop [3, 5, 12, 13, 14, 15, 16, 17, 18, 19, 20, 21, 22, 23, 24, 25, 26, 27, 28, 29, 30, 31, 32, 33, 34, 35, 36, 37, 38, 39, 40, 41, 42] (fun k : Nat => [(12, .c (.lit (.int .i64 (k : Nat)))), (3, .c (.lit (.string (bs (p1 ++ (l.take k).flatMap Fu.mark)))))]) (fun _ => []) (fun k => k ≤ l.length) (fun k => l.length - k) 0 (Nat.zero_le _) ⟨rfl, congrArg (fun s => AV.c (.lit (.string s))) (bs_take0 Fu.mark l (p1)).symm, trivial⟩ rfl ?_
  intro k hk
  repeat (first | refine gG ?_ | refine zN1 (fun hlen => ?_) | refine zN2 (fun hlen => ?_) | refine zAl (fun _ => ?_))
  refine x_cond rfl (fun h => ?_) (fun h => ?_)
  · have hk' : k < l.length := by simpa using h
    obtain ⟨a, ha⟩ := nth hk'
    have hmem := List.mem_of_getElem? ha
    have hsn := flat_snoc' Fu.mark ha
    have h1 := take_flat_le Fu.mark l k
    have h2 := mem_flat_le Fu.mark hmem
    clear h
    repeat (first | refine gG ?_ | refine zN1 (fun hlen => ?_) | refine zN2 (fun hlen => ?_) | refine zAl (fun _ => ?_))
    refine zIx (k) (hk') ?_
    repeat (first | refine gG ?_ | refine zN1 (fun hlen => ?_) | refine zN2 (fun hlen => ?_) | refine zAl (fun _ => ?_))
    refine zEl (Fu.at ha) (Fu.ts_len a) ?_
    obtain ⟨nm, pas, nas, tys, ou, bo⟩ := a
    have hE : Fu.mark ⟨nm, pas, nas, tys, ou, bo⟩ = textsB [nm] ++ (namesB pas ++ (namesB nas ++ (typesB tys ++ (ou.mark ++ bo.mark)))) := by simp [Fu.mark, textsB]
    rw [hE] at hsn h2
    simp only [List.length_append] at h2
    have hk2 := hok _ hmem
    have c_q1 := texts_af [nm] (by omega)
    have c_q2 := namesMark_af pas (by omega)
    have c_q3 := namesMark_af nas (by omega)
    have c_q4 := typesMark_af tys hk2.1 (by omega)
    have c_q5 := typeMark_af ou hk2.2.1 (by omega)
    have c_q6 := exprMark_af bo hk2.2.2 (by omega)
    clear hE hmem ha
    generalize textsB [nm] = q1 at *
    generalize namesB pas = q2 at *
    generalize namesB nas = q3 at *
    generalize typesB tys = q4 at *
    generalize ou.mark = q5 at *
    generalize bo.mark = q6 at *
    clear hk2
    obtain ⟨ky, ny, ly⟩ := ou
    obtain ⟨ka, na, ta, nsa, ysa, la, rsa, pa⟩ := bo
    have hfin : (p1 ++ (l.take k).flatMap Fu.mark) ++ (q1 ++ q2 ++ q3 ++ q4 ++ q5 ++ q6) = p1 ++ (l.take (k + 1)).flatMap Fu.mark := by rw [hsn]; simp only [List.append_assoc]
    repeat (first | refine gG ?_ | refine zN1 (fun hlen => ?_) | refine zN2 (fun hlen => ?_) | refine zAl (fun _ => ?_))
    refine ac_draw [1, 1, 1, 1, 1, 1, 1, 1, 1, 1, 1, 1, 1, 1, 1, 1, 1, 1, 1, 1, 1, 1, 1, 1, 1, 1, 1] [0, 1, 2, 3, 4, 5, 6, 7, 8, 9, 10, 11, 12, 13, 14, 15, 16, 17, 18, 19, 20, 21, 22, 23, 24, 25, 26] (by kernel_rfl) (by kernel_rfl) ?_
    refine gW ?_
    apply w_q; (focus exact rfl); (focus exact rfl); focus (intro _; (refine lo_call c_q1 rfl (by repeat (first | exact rzs_nil | apply rzs_cons | exact rz_c | exact rz_nil rfl | apply rz_agg | exact rz_own rfl | apply rz_fn | exact rz_ptr rfl | apply rz_tup)) ?_; rintro _ rfl); exact det_refl)
    refine gW ?_
    apply w_q; (focus exact rfl); (focus exact rfl); focus (intro _; (refine lo_call c_q2 rfl (by repeat (first | exact rzs_nil | apply rzs_cons | exact rz_c | exact rz_nil rfl | apply rz_agg | exact rz_own rfl | apply rz_fn | exact rz_ptr rfl | apply rz_tup)) ?_; rintro _ rfl); exact det_refl)
    apply w_q; (focus exact rfl); (focus exact rfl); focus (intro _; (refine zCatb (q1) (q2) (by first | omega | (simp only [List.length_append]; omega)) ?_); exact det_refl)
    refine gW ?_
    apply w_q; (focus exact rfl); (focus exact rfl); focus (intro _; (refine lo_call c_q3 rfl (by repeat (first | exact rzs_nil | apply rzs_cons | exact rz_c | exact rz_nil rfl | apply rz_agg | exact rz_own rfl | apply rz_fn | exact rz_ptr rfl | apply rz_tup)) ?_; rintro _ rfl); exact det_refl)
    apply w_q; (focus exact rfl); (focus exact rfl); focus (intro _; (refine zCatb (q1 ++ q2) (q3) (by first | omega | (simp only [List.length_append]; omega)) ?_); exact det_refl)
    refine gW ?_
    apply w_q; (focus exact rfl); (focus exact rfl); focus (intro _; (refine lo_call c_q4 rfl (by repeat (first | exact rzs_nil | apply rzs_cons | exact rz_c | exact rz_nil rfl | apply rz_agg | exact rz_own rfl | apply rz_fn | exact rz_ptr rfl | apply rz_tup)) ?_; rintro _ rfl); exact det_refl)
    apply w_q; (focus exact rfl); (focus exact rfl); focus (intro _; (refine zCatb (q1 ++ q2 ++ q3) (q4) (by first | omega | (simp only [List.length_append]; omega)) ?_); exact det_refl)
    refine gW ?_
    apply w_q; (focus exact rfl); (focus exact rfl); focus (intro _; (refine lo_call c_q5 rfl (by repeat (first | exact rzs_nil | apply rzs_cons | exact rz_c | exact rz_nil rfl | apply rz_agg | exact rz_own rfl | apply rz_fn | exact rz_ptr rfl | apply rz_tup)) ?_; rintro _ rfl); exact det_refl)
    apply w_q; (focus exact rfl); (focus exact rfl); focus (intro _; (refine zCatb (q1 ++ q2 ++ q3 ++ q4) (q5) (by first | omega | (simp only [List.length_append]; omega)) ?_); exact det_refl)
    refine gW ?_
    apply w_q; (focus exact rfl); (focus exact rfl); focus (intro _; (refine lo_call c_q6 rfl (by repeat (first | exact rzs_nil | apply rzs_cons | exact rz_c | exact rz_nil rfl | apply rz_agg | exact rz_own rfl | apply rz_fn | exact rz_ptr rfl | apply rz_tup)) ?_; rintro _ rfl); exact det_refl)
    apply w_q; (focus exact rfl); (focus exact rfl); focus (intro _; (refine zCatb (q1 ++ q2 ++ q3 ++ q4 ++ q5) (q6) (by first | omega | (simp only [List.length_append]; omega)) ?_); exact det_refl)
    apply w_q; (focus exact rfl); (focus exact rfl); focus (intro _; (refine zCatb (p1 ++ (l.take k).flatMap Fu.mark) (q1 ++ q2 ++ q3 ++ q4 ++ q5 ++ q6) (by first | omega | (simp only [List.length_append]; omega)) ?_); exact det_refl)
    refine gW ?_
    refine w_nil ?_
    repeat (first | refine gG ?_ | refine zN1 (fun hlen => ?_) | refine zN2 (fun hlen => ?_) | refine zAl (fun _ => ?_))
    exact ⟨k + 1, hk', by omega, x_wkd 0 ⟨rfl, by rw [← hfin]; rfl, trivial⟩ rfl (by repeat (first | exact ag_refl | refine ag_upd rfl ?_ | refine ag_at rfl rfl ?_))⟩
  · have hk' : k = l.length := by
      have : ¬ k < l.length := by simpa using h
      omega
    subst hk'
    rw [List.take_length]
    clear h
    repeat (first | refine gG ?_ | refine zN1 (fun hlen => ?_) | refine zN2 (fun hlen => ?_) | refine zAl (fun _ => ?_))
    first | refine zR ?_ | refine zQ ?_
    rfl
set_option maxRecDepth 100000 in
set_option maxHeartbeats 8000000 in
theorem mark_af (p : Pr) (hok : p.ok) (hb : p.mark.length ≤ 1099511627776) : AF Tryd.prog 13 [p.t] (· = .lit (.string (bs p.mark))) := by
  obtain ⟨pn, vr, us, ds, trs, ims, fus, acs⟩ := p
  obtain ⟨o1, o2, o3, o4, o5, o6, o7⟩ := hok
  have hm : Pr.mark ⟨pn, vr, us, ds, trs, ims, fus, acs⟩ = textsB [pn] ++ numsB [vr, (us.length : Nat), (ds.length : Nat), (trs.length : Nat), (ims.length : Nat), (acs.length : Nat)] ++ us.flatMap Us.mark ++ ds.flatMap Da.mark ++ trs.flatMap Tr.mark ++ ims.flatMap Im.mark ++ funcsB fus ++ acs.flatMap Ac.mark := by simp [Pr.mark, textsB, numsB, List.append_assoc]
  rw [hm] at hb ⊢
  simp only [List.length_append] at hb
  dsimp only at o1 o2 o3 o4 o5 o6 o7
  have hl1 := len_flat_le Us.mark Us.mark_pos us
  have hl2 := len_flat_le Da.mark Da.mark_pos ds
  have hl3 := len_flat_le Tr.mark Tr.mark_pos trs
  have hl4 := len_flat_le Im.mark Im.mark_pos ims
  have hl5 := len_flat_le Ac.mark Ac.mark_pos acs
  have hT := texts_af [pn] (by omega)
  have hN := nums_af [vr, (us.length : Nat), (ds.length : Nat), (trs.length : Nat), (ims.length : Nat), (acs.length : Nat)] (List.forall_mem_cons.2 ⟨o1, List.forall_mem_cons.2 ⟨inI_nat (by omega), List.forall_mem_cons.2 ⟨inI_nat (by omega), List.forall_mem_cons.2 ⟨inI_nat (by omega), List.forall_mem_cons.2 ⟨inI_nat (by omega), List.forall_mem_cons.2 ⟨inI_nat (by omega), fun _ h => by simp at h⟩⟩⟩⟩⟩⟩) (by omega)
  have hFm := funcsMark_af fus o6 (by omega)
  clear hm hl1 hl2 hl3 hl4 hl5
  generalize numsB [vr, (us.length : Nat), (ds.length : Nat), (trs.length : Nat), (ims.length : Nat), (acs.length : Nat)] = p2 at *
  generalize textsB [pn] = p1 at *
  generalize funcsB fus = p3 at *
  refine af_enter tok Tryd.func13 Tryd.ntmps13 Tryd.results13 rfl (by kernel_rfl) rfl rfl fun F hX => ?_
  repeat (first | refine gG ?_ | refine zN1 (fun hlen => ?_) | refine zN2 (fun hlen => ?_) | refine zAl (fun _ => ?_) | refine zBf ?_)
  refine ac_draw [1, 1, 1, 1, 1, 1, 1, 1, 1, 1, 1, 1, 1, 1, 1, 1, 1, 1, 1, 1, 1, 1, 1, 1, 1] [0, 1, 2, 3, 4, 5, 6, 7, 8, 9, 10, 11, 12, 13, 14, 15, 16, 17, 18, 19, 20, 21, 22, 23, 24] (by kernel_rfl) (by kernel_rfl) ?_
  refine gW ?_
  apply w_q; (focus exact rfl); (focus exact rfl); focus (intro _; (refine lo_call hT rfl (by repeat (first | exact rzs_nil | apply rzs_cons | exact rz_c | exact rz_nil rfl | apply rz_agg | exact rz_own rfl | apply rz_fn | exact rz_ptr rfl | apply rz_tup)) ?_; rintro _ rfl); exact det_refl)
  refine gW ?_
  apply w_q; (focus exact rfl); (focus exact rfl); focus (intro _; (refine lo_call hN rfl (by repeat (first | exact rzs_nil | apply rzs_cons | exact rz_c | exact rz_nil rfl | apply rz_agg | exact rz_own rfl | apply rz_fn | exact rz_ptr rfl | apply rz_tup)) ?_; rintro _ rfl); exact det_refl)
  apply w_q; (focus exact rfl); (focus exact rfl); focus (intro _; (refine zCatb p1 p2 (by omega) ?_); exact det_refl)
  refine gW ?_
  refine w_nil ?_
  repeat (first | refine gG ?_ | refine zN1 (fun hlen => ?_) | refine zN2 (fun hlen => ?_) | refine zAl (fun _ => ?_) | refine zBf ?_)
  refine x_loop [3, 5, 43, 44, 45, 46, 47, 48, 49, 50, 51, 52, 53, 54, 55, 56, 57, 58, 59, 60] (fun k : Nat => [(43, .c (.lit (.int .i64 (k : Nat)))), (3, .c (.lit (.string (bs (p1 ++ p2 ++ (us.take k).flatMap Us.mark)))))]) (fun _ => []) (fun k => k ≤ us.length) (fun k => us.length - k) 0 (Nat.zero_le _) ⟨rfl, congrArg (fun s => AV.c (.lit (.string s))) (bs_take0 Us.mark us (p1 ++ p2)).symm, trivial⟩ rfl ?_
  intro k hk
  repeat (first | refine gG ?_ | refine zN1 (fun hlen => ?_) | refine zN2 (fun hlen => ?_) | refine zAl (fun _ => ?_) | refine zBf ?_)
  refine x_cond rfl (fun h => ?_) (fun h => ?_)
  · have hk' : k < us.length := by simpa using h
    obtain ⟨a, ha⟩ := nth hk'
    have hmem := List.mem_of_getElem? ha
    have hsn := flat_snoc' Us.mark ha
    have h1 := take_flat_le Us.mark us k
    have h2 := mem_flat_le Us.mark hmem
    clear h
    repeat (first | refine gG ?_ | refine zN1 (fun hlen => ?_) | refine zN2 (fun hlen => ?_) | refine zAl (fun _ => ?_) | refine zBf ?_)
    refine zIx (k) (hk') ?_
    repeat (first | refine gG ?_ | refine zN1 (fun hlen => ?_) | refine zN2 (fun hlen => ?_) | refine zAl (fun _ => ?_) | refine zBx (fun _ => ?_))
    refine zEl (Us.at ha) (Us.ts_len a) ?_
    obtain ⟨un, lo, hi⟩ := a
    have hE : Us.mark ⟨un, lo, hi⟩ = textsB [un] ++ numsB [lo, hi] := by simp [Us.mark, textsB, numsB]
    rw [hE] at hsn h2
    simp only [List.length_append] at h2
    have hk2 := o2 _ hmem
    have c_q1 := texts_af [un] (by omega)
    have c_q2 := nums_af [lo, hi] (List.forall_mem_cons.2 ⟨hk2.1, List.forall_mem_cons.2 ⟨hk2.2, fun _ h => by simp at h⟩⟩) (by omega)
    clear hE hmem ha
    generalize textsB [un] = q1 at *
    generalize numsB [lo, hi] = q2 at *
    clear hk2
    have hfin : (p1 ++ p2 ++ (us.take k).flatMap Us.mark) ++ (q1 ++ q2) = p1 ++ p2 ++ (us.take (k + 1)).flatMap Us.mark := by rw [hsn]; simp only [List.append_assoc]
    repeat (first | refine gG ?_ | refine zN1 (fun hlen => ?_) | refine zN2 (fun hlen => ?_) | refine zAl (fun _ => ?_) | refine zBf ?_)
    refine ac_draw [1, 1, 1, 1, 1, 1, 1, 1, 1, 1, 1, 1, 1, 1] [0, 1, 2, 3, 4, 5, 6, 7, 8, 9, 10, 11, 12, 13] (by kernel_rfl) (by kernel_rfl) ?_
    refine gW ?_
    apply w_q; (focus exact rfl); (focus exact rfl); focus (intro _; (refine lo_call c_q1 rfl (by repeat (first | exact rzs_nil | apply rzs_cons | exact rz_c | exact rz_nil rfl | apply rz_agg | exact rz_own rfl | apply rz_fn | exact rz_ptr rfl | apply rz_tup)) ?_; rintro _ rfl); exact det_refl)
    refine gW ?_
    apply w_q; (focus exact rfl); (focus exact rfl); focus (intro _; (refine lo_call c_q2 rfl (by repeat (first | exact rzs_nil | apply rzs_cons | exact rz_c | exact rz_nil rfl | apply rz_agg | exact rz_own rfl | apply rz_fn | exact rz_ptr rfl | apply rz_tup)) ?_; rintro _ rfl); exact det_refl)
    apply w_q; (focus exact rfl); (focus exact rfl); focus (intro _; (refine zCatb (q1) (q2) (by first | omega | (simp only [List.length_append]; omega)) ?_); exact det_refl)
    apply w_q; (focus exact rfl); (focus exact rfl); focus (intro _; (refine zCatb (p1 ++ p2 ++ (us.take k).flatMap Us.mark) (q1 ++ q2) (by first | omega | (simp only [List.length_append]; omega)) ?_); exact det_refl)
    refine gW ?_
    refine w_nil ?_
    repeat (first | refine gG ?_ | refine zN1 (fun hlen => ?_) | refine zN2 (fun hlen => ?_) | refine zAl (fun _ => ?_) | refine zBf ?_)
    exact ⟨k + 1, hk', by omega, x_wkd 0 ⟨rfl, by rw [← hfin]; rfl, trivial⟩ rfl (by repeat (first | exact ag_refl | refine ag_upd rfl ?_ | refine ag_at rfl rfl ?_))⟩
  · have hk' : k = us.length := by
      have : ¬ k < us.length := by simpa using h
      omega
    subst hk'
    rw [List.take_length]
    clear h
    repeat (first | refine gG ?_ | refine zN1 (fun hlen => ?_) | refine zN2 (fun hlen => ?_) | refine zAl (fun _ => ?_) | refine zBf ?_)
    refine x_loop [3, 7, 9, 64, 65, 66, 67, 68, 69, 70, 71, 72, 73, 74, 75, 76, 77, 78, 79, 80, 81, 82, 83, 84, 85, 86, 87, 88, 89, 90, 91, 92, 93, 94, 95, 96, 97, 98, 99, 100, 101, 102] (fun k : Nat => [(64, .c (.lit (.int .i64 (k : Nat)))), (3, .c (.lit (.string (bs (p1 ++ p2 ++ us.flatMap Us.mark ++ (ds.take k).flatMap Da.mark)))))]) (fun _ => []) (fun k => k ≤ ds.length) (fun k => ds.length - k) 0 (Nat.zero_le _) ⟨rfl, congrArg (fun s => AV.c (.lit (.string s))) (bs_take0 Da.mark ds (p1 ++ p2 ++ us.flatMap Us.mark)).symm, trivial⟩ rfl ?_
    intro k hk
    repeat (first | refine gG ?_ | refine zN1 (fun hlen => ?_) | refine zN2 (fun hlen => ?_) | refine zAl (fun _ => ?_) | refine zBf ?_)
    refine x_cond rfl (fun h => ?_) (fun h => ?_)
    · have hk' : k < ds.length := by simpa using h
      obtain ⟨a, ha⟩ := nth hk'
      have hmem := List.mem_of_getElem? ha
      have hsn := flat_snoc' Da.mark ha
      have h1 := take_flat_le Da.mark ds k
      have h2 := mem_flat_le Da.mark hmem
      clear h
      repeat (first | refine gG ?_ | refine zN1 (fun hlen => ?_) | refine zN2 (fun hlen => ?_) | refine zAl (fun _ => ?_) | refine zBf ?_)
      refine zIx (k) (hk') ?_
      repeat (first | refine gG ?_ | refine zN1 (fun hlen => ?_) | refine zN2 (fun hlen => ?_) | refine zAl (fun _ => ?_) | refine zBx (fun _ => ?_))
      refine zEl (Da.at ha) (Da.ts_len a) ?_
      obtain ⟨dn, dps, mks⟩ := a
      have hE : Da.mark ⟨dn, dps, mks⟩ = textsB [dn] ++ (numB (mks.length : Nat) ++ (namesB dps ++ mks.flatMap Mk.mark)) := by simp [Da.mark, textsB]
      rw [hE] at hsn h2
      simp only [List.length_append] at h2
      have hmk : ∀ a ∈ mks, a.ok := o3 _ hmem
      have c_q1 := texts_af [dn] (by omega)
      have c_q2 := num1_af (mks.length : Nat) (inI_nat (by have := len_flat_le Mk.mark Mk.mark_pos mks; omega)) (by omega)
      have c_q3 := namesMark_af dps (by omega)
      clear hE hmem ha
      generalize textsB [dn] = q1 at *
      generalize numB (mks.length : Nat) = q2 at *
      generalize namesB dps = q3 at *
      have hfin : ((p1 ++ p2 ++ us.flatMap Us.mark ++ (ds.take k).flatMap Da.mark) ++ (q1 ++ q2 ++ q3)) ++ mks.flatMap Mk.mark = p1 ++ p2 ++ us.flatMap Us.mark ++ (ds.take (k + 1)).flatMap Da.mark := by rw [hsn]; simp only [List.append_assoc]
      repeat (first | refine gG ?_ | refine zN1 (fun hlen => ?_) | refine zN2 (fun hlen => ?_) | refine zAl (fun _ => ?_) | refine zBf ?_)
      refine ac_draw [1, 1, 1, 1, 1, 1, 1, 1, 1, 1, 1, 1, 1, 1, 1, 1, 1] [0, 1, 2, 3, 4, 5, 6, 7, 8, 9, 10, 11, 12, 13, 14, 15, 16] (by kernel_rfl) (by kernel_rfl) ?_
      refine gW ?_
      apply w_q; (focus exact rfl); (focus exact rfl); focus (intro _; (refine lo_call c_q1 rfl (by repeat (first | exact rzs_nil | apply rzs_cons | exact rz_c | exact rz_nil rfl | apply rz_agg | exact rz_own rfl | apply rz_fn | exact rz_ptr rfl | apply rz_tup)) ?_; rintro _ rfl); exact det_refl)
      refine gW ?_
      apply w_q; (focus exact rfl); (focus exact rfl); focus (intro _; (refine lo_call c_q2 rfl (by repeat (first | exact rzs_nil | apply rzs_cons | exact rz_c | exact rz_nil rfl | apply rz_agg | exact rz_own rfl | apply rz_fn | exact rz_ptr rfl | apply rz_tup)) ?_; rintro _ rfl); exact det_refl)
      apply w_q; (focus exact rfl); (focus exact rfl); focus (intro _; (refine zCatb (q1) (q2) (by first | omega | (simp only [List.length_append]; omega)) ?_); exact det_refl)
      refine gW ?_
      apply w_q; (focus exact rfl); (focus exact rfl); focus (intro _; (refine lo_call c_q3 rfl (by repeat (first | exact rzs_nil | apply rzs_cons | exact rz_c | exact rz_nil rfl | apply rz_agg | exact rz_own rfl | apply rz_fn | exact rz_ptr rfl | apply rz_tup)) ?_; rintro _ rfl); exact det_refl)
      apply w_q; (focus exact rfl); (focus exact rfl); focus (intro _; (refine zCatb (q1 ++ q2) (q3) (by first | omega | (simp only [List.length_append]; omega)) ?_); exact det_refl)
      apply w_q; (focus exact rfl); (focus exact rfl); focus (intro _; (refine zCatb (p1 ++ p2 ++ us.flatMap Us.mark ++ (ds.take k).flatMap Da.mark) (q1 ++ q2 ++ q3) (by first | omega | (simp only [List.length_append]; omega)) ?_); exact det_refl)
      refine gW ?_
      refine w_nil ?_
      repeat (first | refine gG ?_ | refine zN1 (fun hlen => ?_) | refine zN2 (fun hlen => ?_) | refine zAl (fun _ => ?_) | refine zBf ?_)
      refine x_drop 0 rfl ?_
      refine x_loop [3, 9, 87, 88, 89, 90, 91, 92, 93, 94, 95, 96, 97, 98, 99, 100, 101] (fun j : Nat => [(87, .c (.lit (.int .i64 (j : Nat)))), (3, .c (.lit (.string (bs ((p1 ++ p2 ++ us.flatMap Us.mark ++ (ds.take k).flatMap Da.mark) ++ (q1 ++ q2 ++ q3) ++ (mks.take j).flatMap Mk.mark)))))]) (fun _ => []) (fun j => j ≤ mks.length) (fun j => mks.length - j) 0 (Nat.zero_le _) ⟨rfl, congrArg (fun s => AV.c (.lit (.string s))) (bs_take0 Mk.mark mks ((p1 ++ p2 ++ us.flatMap Us.mark ++ (ds.take k).flatMap Da.mark) ++ (q1 ++ q2 ++ q3))).symm, trivial⟩ rfl ?_
      intro j hj
      repeat (first | refine gG ?_ | refine zN1 (fun hlen => ?_) | refine zN2 (fun hlen => ?_) | refine zAl (fun _ => ?_) | refine zBf ?_)
      refine x_cond rfl (fun h => ?_) (fun h => ?_)
      · have hj' : j < mks.length := by simpa using h
        obtain ⟨a, ha2⟩ := nth hj'
        have hmem2 := List.mem_of_getElem? ha2
        have hsn2 := flat_snoc' Mk.mark ha2
        have g1 := take_flat_le Mk.mark mks j
        have g2 := mem_flat_le Mk.mark hmem2
        clear h
        repeat (first | refine gG ?_ | refine zN1 (fun hlen => ?_) | refine zN2 (fun hlen => ?_) | refine zAl (fun _ => ?_) | refine zBf ?_)
        refine zIx (j) (hj') ?_
        repeat (first | refine gG ?_ | refine zN1 (fun hlen => ?_) | refine zN2 (fun hlen => ?_) | refine zAl (fun _ => ?_) | refine zBx (fun _ => ?_))
        refine zEl (Mk.at ha2) (Mk.ts_len a) ?_
        obtain ⟨mn, mas⟩ := a
        have hE2 : Mk.mark ⟨mn, mas⟩ = textsB [mn] ++ typesB mas := by simp [Mk.mark, textsB]
        rw [hE2] at hsn2 g2
        simp only [List.length_append] at g2
        have hj2 := hmk _ hmem2
        have c_r1 := texts_af [mn] (by omega)
        have c_r2 := typesMark_af mas hj2 (by omega)
        clear hE2 hmem2 ha2
        generalize textsB [mn] = r1 at *
        generalize typesB mas = r2 at *
        clear hj2
        have hfin2 : ((p1 ++ p2 ++ us.flatMap Us.mark ++ (ds.take k).flatMap Da.mark) ++ (q1 ++ q2 ++ q3) ++ (mks.take j).flatMap Mk.mark) ++ (r1 ++ r2) = (p1 ++ p2 ++ us.flatMap Us.mark ++ (ds.take k).flatMap Da.mark) ++ (q1 ++ q2 ++ q3) ++ (mks.take (j + 1)).flatMap Mk.mark := by rw [hsn2]; simp only [List.append_assoc]
        repeat (first | refine gG ?_ | refine zN1 (fun hlen => ?_) | refine zN2 (fun hlen => ?_) | refine zAl (fun _ => ?_) | refine zBf ?_)
        refine ac_draw [1, 1, 1, 1, 1, 1, 1, 1, 1, 1, 1] [0, 1, 2, 3, 4, 5, 6, 7, 8, 9, 10] (by kernel_rfl) (by kernel_rfl) ?_
        refine gW ?_
        apply w_q; (focus exact rfl); (focus exact rfl); focus (intro _; (refine lo_call c_r1 rfl (by repeat (first | exact rzs_nil | apply rzs_cons | exact rz_c | exact rz_nil rfl | apply rz_agg | exact rz_own rfl | apply rz_fn | exact rz_ptr rfl | apply rz_tup)) ?_; rintro _ rfl); exact det_refl)
        refine gW ?_
        apply w_q; (focus exact rfl); (focus exact rfl); focus (intro _; (refine lo_call c_r2 rfl (by repeat (first | exact rzs_nil | apply rzs_cons | exact rz_c | exact rz_nil rfl | apply rz_agg | exact rz_own rfl | apply rz_fn | exact rz_ptr rfl | apply rz_tup)) ?_; rintro _ rfl); exact det_refl)
        apply w_q; (focus exact rfl); (focus exact rfl); focus (intro _; (refine zCatb (r1) (r2) (by first | omega | (simp only [List.length_append]; omega)) ?_); exact det_refl)
        apply w_q; (focus exact rfl); (focus exact rfl); focus (intro _; (refine zCatb ((p1 ++ p2 ++ us.flatMap Us.mark ++ (ds.take k).flatMap Da.mark) ++ (q1 ++ q2 ++ q3) ++ (mks.take j).flatMap Mk.mark) (r1 ++ r2) (by first | omega | (simp only [List.length_append]; omega)) ?_); exact det_refl)
        refine gW ?_
        refine w_nil ?_
        repeat (first | refine gG ?_ | refine zN1 (fun hlen => ?_) | refine zN2 (fun hlen => ?_) | refine zAl (fun _ => ?_) | refine zBf ?_)
        exact ⟨j + 1, hj', by omega, x_wkd 0 ⟨rfl, by rw [← hfin2]; rfl, trivial⟩ rfl (by repeat (first | exact ag_refl | refine ag_upd rfl ?_ | refine ag_at rfl rfl ?_))⟩
      · have hj' : j = mks.length := by
          have : ¬ j < mks.length := by simpa using h
          omega
        subst hj'
        rw [List.take_length]
        clear h
        repeat (first | refine gG ?_ | refine zN1 (fun hlen => ?_) | refine zN2 (fun hlen => ?_) | refine zAl (fun _ => ?_) | refine zBf ?_)
        exact ⟨k + 1, hk', by omega, x_wkd 0 ⟨rfl, by rw [← hfin]; rfl, trivial⟩ rfl (by repeat (first | exact ag_refl | refine ag_upd rfl ?_ | refine ag_at rfl rfl ?_))⟩
    · have hk' : k = ds.length := by
        have : ¬ k < ds.length := by simpa using h
        omega
      subst hk'
      rw [List.take_length]
      clear h
      repeat (first | refine gG ?_ | refine zN1 (fun hlen => ?_) | refine zN2 (fun hlen => ?_) | refine zAl (fun _ => ?_) | refine zBf ?_)
      refine x_loop [3, 11, 106, 107, 108, 109, 110, 111, 112, 113, 114, 115, 116, 117, 118, 119, 120] (fun k : Nat => [(106, .c (.lit (.int .i64 (k : Nat)))), (3, .c (.lit (.string (bs (p1 ++ p2 ++ us.flatMap Us.mark ++ ds.flatMap Da.mark ++ (trs.take k).flatMap Tr.mark)))))]) (fun _ => []) (fun k => k ≤ trs.length) (fun k => trs.length - k) 0 (Nat.zero_le _) ⟨rfl, congrArg (fun s => AV.c (.lit (.string s))) (bs_take0 Tr.mark trs (p1 ++ p2 ++ us.flatMap Us.mark ++ ds.flatMap Da.mark)).symm, trivial⟩ rfl ?_
      intro k hk
      repeat (first | refine gG ?_ | refine zN1 (fun hlen => ?_) | refine zN2 (fun hlen => ?_) | refine zAl (fun _ => ?_) | refine zBf ?_)
      refine x_cond rfl (fun h => ?_) (fun h => ?_)
      · have hk' : k < trs.length := by simpa using h
        obtain ⟨a, ha⟩ := nth hk'
        have hmem := List.mem_of_getElem? ha
        have hsn := flat_snoc' Tr.mark ha
        have h1 := take_flat_le Tr.mark trs k
        have h2 := mem_flat_le Tr.mark hmem
        clear h
        repeat (first | refine gG ?_ | refine zN1 (fun hlen => ?_) | refine zN2 (fun hlen => ?_) | refine zAl (fun _ => ?_) | refine zBf ?_)
        refine zIx (k) (hk') ?_
        repeat (first | refine gG ?_ | refine zN1 (fun hlen => ?_) | refine zN2 (fun hlen => ?_) | refine zAl (fun _ => ?_) | refine zBx (fun _ => ?_))
        refine zEl (Tr.at ha) (Tr.ts_len a) ?_
        obtain ⟨tn, tfs⟩ := a
        have hE : Tr.mark ⟨tn, tfs⟩ = textsB [tn] ++ funcsB tfs := by simp [Tr.mark, textsB]
        rw [hE] at hsn h2
        simp only [List.length_append] at h2
        have hk2 := o4 _ hmem
        have c_q1 := texts_af [tn] (by omega)
        have c_q2 := funcsMark_af tfs hk2 (by omega)
        clear hE hmem ha
        generalize textsB [tn] = q1 at *
        generalize funcsB tfs = q2 at *
        clear hk2
        have hfin : (p1 ++ p2 ++ us.flatMap Us.mark ++ ds.flatMap Da.mark ++ (trs.take k).flatMap Tr.mark) ++ (q1 ++ q2) = p1 ++ p2 ++ us.flatMap Us.mark ++ ds.flatMap Da.mark ++ (trs.take (k + 1)).flatMap Tr.mark := by rw [hsn]; simp only [List.append_assoc]
        repeat (first | refine gG ?_ | refine zN1 (fun hlen => ?_) | refine zN2 (fun hlen => ?_) | refine zAl (fun _ => ?_) | refine zBf ?_)
        refine ac_draw [1, 1, 1, 1, 1, 1, 1, 1, 1, 1, 1] [0, 1, 2, 3, 4, 5, 6, 7, 8, 9, 10] (by kernel_rfl) (by kernel_rfl) ?_
        refine gW ?_
        apply w_q; (focus exact rfl); (focus exact rfl); focus (intro _; (refine lo_call c_q1 rfl (by repeat (first | exact rzs_nil | apply rzs_cons | exact rz_c | exact rz_nil rfl | apply rz_agg | exact rz_own rfl | apply rz_fn | exact rz_ptr rfl | apply rz_tup)) ?_; rintro _ rfl); exact det_refl)
        refine gW ?_
        apply w_q; (focus exact rfl); (focus exact rfl); focus (intro _; (refine lo_call c_q2 rfl (by repeat (first | exact rzs_nil | apply rzs_cons | exact rz_c | exact rz_nil rfl | apply rz_agg | exact rz_own rfl | apply rz_fn | exact rz_ptr rfl | apply rz_tup)) ?_; rintro _ rfl); exact det_refl)
        apply w_q; (focus exact rfl); (focus exact rfl); focus (intro _; (refine zCatb (q1) (q2) (by first | omega | (simp only [List.length_append]; omega)) ?_); exact det_refl)
        apply w_q; (focus exact rfl); (focus exact rfl); focus (intro _; (refine zCatb (p1 ++ p2 ++ us.flatMap Us.mark ++ ds.flatMap Da.mark ++ (trs.take k).flatMap Tr.mark) (q1 ++ q2) (by first | omega | (simp only [List.length_append]; omega)) ?_); exact det_refl)
        refine gW ?_
        refine w_nil ?_
        repeat (first | refine gG ?_ | refine zN1 (fun hlen => ?_) | refine zN2 (fun hlen => ?_) | refine zAl (fun _ => ?_) | refine zBf ?_)
        exact ⟨k + 1, hk', by omega, x_wkd 0 ⟨rfl, by rw [← hfin]; rfl, trivial⟩ rfl (by repeat (first | exact ag_refl | refine ag_upd rfl ?_ | refine ag_at rfl rfl ?_))⟩
      · have hk' : k = trs.length := by
          have : ¬ k < trs.length := by simpa using h
          omega
        subst hk'
        rw [List.take_length]
        clear h
        repeat (first | refine gG ?_ | refine zN1 (fun hlen => ?_) | refine zN2 (fun hlen => ?_) | refine zAl (fun _ => ?_) | refine zBf ?_)
        refine x_loop [3, 13, 124, 125, 126, 127, 128, 129, 130, 131, 132, 133, 134, 135, 136, 137, 138, 139, 140] (fun k : Nat => [(124, .c (.lit (.int .i64 (k : Nat)))), (3, .c (.lit (.string (bs (p1 ++ p2 ++ us.flatMap Us.mark ++ ds.flatMap Da.mark ++ trs.flatMap Tr.mark ++ (ims.take k).flatMap Im.mark)))))]) (fun _ => []) (fun k => k ≤ ims.length) (fun k => ims.length - k) 0 (Nat.zero_le _) ⟨rfl, congrArg (fun s => AV.c (.lit (.string s))) (bs_take0 Im.mark ims (p1 ++ p2 ++ us.flatMap Us.mark ++ ds.flatMap Da.mark ++ trs.flatMap Tr.mark)).symm, trivial⟩ rfl ?_
        intro k hk
        repeat (first | refine gG ?_ | refine zN1 (fun hlen => ?_) | refine zN2 (fun hlen => ?_) | refine zAl (fun _ => ?_) | refine zBf ?_)
        refine x_cond rfl (fun h => ?_) (fun h => ?_)
        · have hk' : k < ims.length := by simpa using h
          obtain ⟨a, ha⟩ := nth hk'
          have hmem := List.mem_of_getElem? ha
          have hsn := flat_snoc' Im.mark ha
          have h1 := take_flat_le Im.mark ims k
          have h2 := mem_flat_le Im.mark hmem
          clear h
          repeat (first | refine gG ?_ | refine zN1 (fun hlen => ?_) | refine zN2 (fun hlen => ?_) | refine zAl (fun _ => ?_) | refine zBf ?_)
          refine zIx (k) (hk') ?_
          repeat (first | refine gG ?_ | refine zN1 (fun hlen => ?_) | refine zN2 (fun hlen => ?_) | refine zAl (fun _ => ?_) | refine zBx (fun _ => ?_))
          refine zEl (Im.at ha) (Im.ts_len a) ?_
          obtain ⟨it, idt, ifs⟩ := a
          have hE : Im.mark ⟨it, idt, ifs⟩ = textsB [it, idt] ++ funcsB ifs := by simp [Im.mark, textsB]
          rw [hE] at hsn h2
          simp only [List.length_append] at h2
          have hk2 := o5 _ hmem
          have c_q1 := texts_af [it, idt] (by omega)
          have c_q2 := funcsMark_af ifs hk2 (by omega)
          clear hE hmem ha
          generalize textsB [it, idt] = q1 at *
          generalize funcsB ifs = q2 at *
          clear hk2
          have hfin : (p1 ++ p2 ++ us.flatMap Us.mark ++ ds.flatMap Da.mark ++ trs.flatMap Tr.mark ++ (ims.take k).flatMap Im.mark) ++ (q1 ++ q2) = p1 ++ p2 ++ us.flatMap Us.mark ++ ds.flatMap Da.mark ++ trs.flatMap Tr.mark ++ (ims.take (k + 1)).flatMap Im.mark := by rw [hsn]; simp only [List.append_assoc]
          repeat (first | refine gG ?_ | refine zN1 (fun hlen => ?_) | refine zN2 (fun hlen => ?_) | refine zAl (fun _ => ?_) | refine zBf ?_)
          refine ac_draw [1, 1, 1, 1, 1, 1, 1, 1, 1, 1, 1, 1, 1] [0, 1, 2, 3, 4, 5, 6, 7, 8, 9, 10, 11, 12] (by kernel_rfl) (by kernel_rfl) ?_
          refine gW ?_
          apply w_q; (focus exact rfl); (focus exact rfl); focus (intro _; (refine lo_call c_q1 rfl (by repeat (first | exact rzs_nil | apply rzs_cons | exact rz_c | exact rz_nil rfl | apply rz_agg | exact rz_own rfl | apply rz_fn | exact rz_ptr rfl | apply rz_tup)) ?_; rintro _ rfl); exact det_refl)
          refine gW ?_
          apply w_q; (focus exact rfl); (focus exact rfl); focus (intro _; (refine lo_call c_q2 rfl (by repeat (first | exact rzs_nil | apply rzs_cons | exact rz_c | exact rz_nil rfl | apply rz_agg | exact rz_own rfl | apply rz_fn | exact rz_ptr rfl | apply rz_tup)) ?_; rintro _ rfl); exact det_refl)
          apply w_q; (focus exact rfl); (focus exact rfl); focus (intro _; (refine zCatb (q1) (q2) (by first | omega | (simp only [List.length_append]; omega)) ?_); exact det_refl)
          apply w_q; (focus exact rfl); (focus exact rfl); focus (intro _; (refine zCatb (p1 ++ p2 ++ us.flatMap Us.mark ++ ds.flatMap Da.mark ++ trs.flatMap Tr.mark ++ (ims.take k).flatMap Im.mark) (q1 ++ q2) (by first | omega | (simp only [List.length_append]; omega)) ?_); exact det_refl)
          refine gW ?_
          refine w_nil ?_
          repeat (first | refine gG ?_ | refine zN1 (fun hlen => ?_) | refine zN2 (fun hlen => ?_) | refine zAl (fun _ => ?_) | refine zBf ?_)
          exact ⟨k + 1, hk', by omega, x_wkd 0 ⟨rfl, by rw [← hfin]; rfl, trivial⟩ rfl (by repeat (first | exact ag_refl | refine ag_upd rfl ?_ | refine ag_at rfl rfl ?_))⟩
        · have hk' : k = ims.length := by
            have : ¬ k < ims.length := by simpa using h
            omega
          subst hk'
          rw [List.take_length]
          clear h
          repeat (first | refine gG ?_ | refine zN1 (fun hlen => ?_) | refine zN2 (fun hlen => ?_) | refine zAl (fun _ => ?_) | refine zBf ?_)
          refine zCall (hFm) ?_
          rintro _ rfl
          repeat (first | refine gG ?_ | refine zN1 (fun hlen => ?_) | refine zN2 (fun hlen => ?_) | refine zAl (fun _ => ?_) | refine zBf ?_)
          refine zCatb (p1 ++ p2 ++ us.flatMap Us.mark ++ ds.flatMap Da.mark ++ trs.flatMap Tr.mark ++ ims.flatMap Im.mark) p3 (by simp only [List.length_append]; omega) ?_
          repeat (first | refine gG ?_ | refine zN1 (fun hlen => ?_) | refine zN2 (fun hlen => ?_) | refine zAl (fun _ => ?_) | refine zBf ?_)
          refine x_loop [3, 15, 149, 150, 151, 152, 153, 154, 155, 156, 157, 158, 159, 160, 161, 162, 163, 164, 165, 166, 167, 168, 169, 170, 171, 172, 173, 174, 175] (fun k : Nat => [(149, .c (.lit (.int .i64 (k : Nat)))), (3, .c (.lit (.string (bs (p1 ++ p2 ++ us.flatMap Us.mark ++ ds.flatMap Da.mark ++ trs.flatMap Tr.mark ++ ims.flatMap Im.mark ++ p3 ++ (acs.take k).flatMap Ac.mark)))))]) (fun _ => []) (fun k => k ≤ acs.length) (fun k => acs.length - k) 0 (Nat.zero_le _) ⟨rfl, congrArg (fun s => AV.c (.lit (.string s))) (bs_take0 Ac.mark acs (p1 ++ p2 ++ us.flatMap Us.mark ++ ds.flatMap Da.mark ++ trs.flatMap Tr.mark ++ ims.flatMap Im.mark ++ p3)).symm, trivial⟩ rfl ?_
          intro k hk
          repeat (first | refine gG ?_ | refine zN1 (fun hlen => ?_) | refine zN2 (fun hlen => ?_) | refine zAl (fun _ => ?_) | refine zBf ?_)
          refine x_cond rfl (fun h => ?_) (fun h => ?_)
          · have hk' : k < acs.length := by simpa using h
            obtain ⟨a, ha⟩ := nth hk'
            have hmem := List.mem_of_getElem? ha
            have hsn := flat_snoc' Ac.mark ha
            have h1 := take_flat_le Ac.mark acs k
            have h2 := mem_flat_le Ac.mark hmem
            clear h
            repeat (first | refine gG ?_ | refine zN1 (fun hlen => ?_) | refine zN2 (fun hlen => ?_) | refine zAl (fun _ => ?_) | refine zBf ?_)
            refine zIx (k) (hk') ?_
            repeat (first | refine gG ?_ | refine zN1 (fun hlen => ?_) | refine zN2 (fun hlen => ?_) | refine zAl (fun _ => ?_) | refine zBx (fun _ => ?_))
            refine zEl (Ac.at ha) (Ac.ts_len a) ?_
            obtain ⟨an, ans, ats, ou, bo⟩ := a
            have hE : Ac.mark ⟨an, ans, ats, ou, bo⟩ = textsB [an] ++ (namesB ans ++ (typesB ats ++ (ou.mark ++ bo.mark))) := by simp [Ac.mark, textsB]
            rw [hE] at hsn h2
            simp only [List.length_append] at h2
            have hk2 := o7 _ hmem
            have c_q1 := texts_af [an] (by omega)
            have c_q2 := namesMark_af ans (by omega)
            have c_q3 := typesMark_af ats hk2.1 (by omega)
            have c_q4 := typeMark_af ou hk2.2.1 (by omega)
            have c_q5 := exprMark_af bo hk2.2.2 (by omega)
            clear hE hmem ha
            generalize textsB [an] = q1 at *
            generalize namesB ans = q2 at *
            generalize typesB ats = q3 at *
            generalize ou.mark = q4 at *
            generalize bo.mark = q5 at *
            clear hk2
            obtain ⟨ky, ny, ly⟩ := ou
            obtain ⟨ka, na, ta, nsa, ysa, la, rsa, pa⟩ := bo
            have hfin : (p1 ++ p2 ++ us.flatMap Us.mark ++ ds.flatMap Da.mark ++ trs.flatMap Tr.mark ++ ims.flatMap Im.mark ++ p3 ++ (acs.take k).flatMap Ac.mark) ++ (q1 ++ q2 ++ q3 ++ q4 ++ q5) = p1 ++ p2 ++ us.flatMap Us.mark ++ ds.flatMap Da.mark ++ trs.flatMap Tr.mark ++ ims.flatMap Im.mark ++ p3 ++ (acs.take (k + 1)).flatMap Ac.mark := by rw [hsn]; simp only [List.append_assoc]
            repeat (first | refine gG ?_ | refine zN1 (fun hlen => ?_) | refine zN2 (fun hlen => ?_) | refine zAl (fun _ => ?_) | refine zBf ?_)
            refine ac_draw [1, 1, 1, 1, 1, 1, 1, 1, 1, 1, 1, 1, 1, 1, 1, 1, 1, 1, 1, 1, 1, 1, 1] [0, 1, 2, 3, 4, 5, 6, 7, 8, 9, 10, 11, 12, 13, 14, 15, 16, 17, 18, 19, 20, 21, 22] (by kernel_rfl) (by kernel_rfl) ?_
            refine gW ?_
            apply w_q; (focus exact rfl); (focus exact rfl); focus (intro _; (refine lo_call c_q1 rfl (by repeat (first | exact rzs_nil | apply rzs_cons | exact rz_c | exact rz_nil rfl | apply rz_agg | exact rz_own rfl | apply rz_fn | exact rz_ptr rfl | apply rz_tup)) ?_; rintro _ rfl); exact det_refl)
            refine gW ?_
            apply w_q; (focus exact rfl); (focus exact rfl); focus (intro _; (refine lo_call c_q2 rfl (by repeat (first | exact rzs_nil | apply rzs_cons | exact rz_c | exact rz_nil rfl | apply rz_agg | exact rz_own rfl | apply rz_fn | exact rz_ptr rfl | apply rz_tup)) ?_; rintro _ rfl); exact det_refl)
            apply w_q; (focus exact rfl); (focus exact rfl); focus (intro _; (refine zCatb (q1) (q2) (by first | omega | (simp only [List.length_append]; omega)) ?_); exact det_refl)
            refine gW ?_
            apply w_q; (focus exact rfl); (focus exact rfl); focus (intro _; (refine lo_call c_q3 rfl (by repeat (first | exact rzs_nil | apply rzs_cons | exact rz_c | exact rz_nil rfl | apply rz_agg | exact rz_own rfl | apply rz_fn | exact rz_ptr rfl | apply rz_tup)) ?_; rintro _ rfl); exact det_refl)
            apply w_q; (focus exact rfl); (focus exact rfl); focus (intro _; (refine zCatb (q1 ++ q2) (q3) (by first | omega | (simp only [List.length_append]; omega)) ?_); exact det_refl)
            refine gW ?_
            apply w_q; (focus exact rfl); (focus exact rfl); focus (intro _; (refine lo_call c_q4 rfl (by repeat (first | exact rzs_nil | apply rzs_cons | exact rz_c | exact rz_nil rfl | apply rz_agg | exact rz_own rfl | apply rz_fn | exact rz_ptr rfl | apply rz_tup)) ?_; rintro _ rfl); exact det_refl)
            apply w_q; (focus exact rfl); (focus exact rfl); focus (intro _; (refine zCatb (q1 ++ q2 ++ q3) (q4) (by first | omega | (simp only [List.length_append]; omega)) ?_); exact det_refl)
            refine gW ?_
            apply w_q; (focus exact rfl); (focus exact rfl); focus (intro _; (refine lo_call c_q5 rfl (by repeat (first | exact rzs_nil | apply rzs_cons | exact rz_c | exact rz_nil rfl | apply rz_agg | exact rz_own rfl | apply rz_fn | exact rz_ptr rfl | apply rz_tup)) ?_; rintro _ rfl); exact det_refl)
            apply w_q; (focus exact rfl); (focus exact rfl); focus (intro _; (refine zCatb (q1 ++ q2 ++ q3 ++ q4) (q5) (by first | omega | (simp only [List.length_append]; omega)) ?_); exact det_refl)
            apply w_q; (focus exact rfl); (focus exact rfl); focus (intro _; (refine zCatb (p1 ++ p2 ++ us.flatMap Us.mark ++ ds.flatMap Da.mark ++ trs.flatMap Tr.mark ++ ims.flatMap Im.mark ++ p3 ++ (acs.take k).flatMap Ac.mark) (q1 ++ q2 ++ q3 ++ q4 ++ q5) (by first | omega | (simp only [List.length_append]; omega)) ?_); exact det_refl)
            refine gW ?_
            refine w_nil ?_
            repeat (first | refine gG ?_ | refine zN1 (fun hlen => ?_) | refine zN2 (fun hlen => ?_) | refine zAl (fun _ => ?_) | refine zBf ?_)
            exact ⟨k + 1, hk', by omega, x_wkd 0 ⟨rfl, by rw [← hfin]; rfl, trivial⟩ rfl (by repeat (first | exact ag_refl | refine ag_upd rfl ?_ | refine ag_at rfl rfl ?_))⟩
          · have hk' : k = acs.length := by
              have : ¬ k < acs.length := by simpa using h
              omega
            subst hk'
            rw [List.take_length]
            clear h
            repeat (first | refine gG ?_ | refine zN1 (fun hlen => ?_) | refine zN2 (fun hlen => ?_) | refine zAl (fun _ => ?_) | refine zBf ?_)
            first | refine zR ?_ | refine zQ ?_
            rfl
end Go.Proofs.YtllgibfmddihgaaDoor
namespace Go.Proofs.YtllgibfmddihgaaDoor
open Go.RowKit
def Ar.pat : Ar → V
  | .mk p _ => p
def Ar.body : Ar → Ex
  | .mk _ b => b
def Ex.arms : Ex → List Ar
  | .mk _ _ _ _ _ _ rs _ => rs
def Ex.args : Ex → List Ex
  | .mk _ _ _ _ _ l _ _ => l
def Im.bodies (i : Im) : List Ex := i.funcs.map Fu.body
def Pr.funs (p : Pr) : List Fu := p.impls.flatMap Im.funcs ++ p.funcs
def Pr.bodies (p : Pr) : List Ex := p.funs.map Fu.body ++ p.actors.map Ac.body
end Go.Proofs.YtllgibfmddihgaaDoor
namespace Go.Proofs.YtllgibfmddihgaaDoor
open Go.RowKit
/-- a pointer asq a number of its own -/
def ptrT (b off : Nat) : T := .lit (.pointer (some ⟨b, off, none⟩))
theorem ra_fn2 (f : Fn) (i b o j c q : Nat) (M : Mm) (u : Value) : RA M (.fn f [.ptr i b o, .ptr j c q]) u → RA M (.c (.fn f [ptrT b o, ptrT c q])) u := by
  rintro h
  simp only [RA, RAs, RT, RTs, ptrT] at h ⊢
  exact h
theorem ra_fn2' (f : Fn) (i b o j c q : Nat) (M : Mm) (u : Value) : RA M (.c (.fn f [ptrT b o, ptrT c q])) u → RA M (.fn f [.ptr i b o, .ptr j c q]) u := by
  rintro h
  simp only [RA, RAs, RT, RTs, ptrT] at h ⊢
  exact h
/-- a function over two variables asq a closed tree, and back -/
def shutC : AV → AV
  | .fn f [.ptr _ b o, .ptr _ c q] => .c (.fn f [ptrT b o, ptrT c q])
  | a => a
def openC : AV → AV
  | .c (.fn f [.lit (.pointer (some ⟨b, o, none⟩)), .lit (.pointer (some ⟨c, q, none⟩))]) => .fn f [.ptr 0 b o, .ptr 1 c q]
  | a => a
theorem shutC_ok {M : Mm} {a : AV} {x : Value} (h : RA M a x) : RA M (shutC a) x := by
  unfold shutC
  split
  · exact ra_fn2 _ _ _ _ _ _ _ M x h
  · exact h
theorem openC_ok {M : Mm} {a : AV} {x : Value} (h : RA M a x) : RA M (openC a) x := by
  unfold openC
  split
  · exact ra_fn2' _ 0 _ _ 1 _ _ M x h
  · exact h
theorem zFs {P : Program} {F : Frm} {o : Oper} {ρ : Operand → AV} {hp : List Blk} {K : AV → List Blk → Prop} (h : LO P F o (fun x => shutC (ρ x)) hp K) : LO P F o ρ hp K :=
  ⟨fun M e w h1 h2 => h.out M e w (fun x hx => shutC_ok (h1 x hx)) h2⟩
theorem zFo {P : Program} {F : Frm} {o : Oper} {ρ : Operand → AV} {hp : List Blk} {K : AV → List Blk → Prop} (h : LO P F o (fun x => openC (ρ x)) hp K) : LO P F o ρ hp K :=
  ⟨fun M e w h1 h2 => h.out M e w (fun x hx => openC_ok (h1 x hx)) h2⟩
theorem drop_flat {α β : Type} {f : α → List β} {sz : Nat} (hf : ∀ a, (f a).length = sz) : ∀ (m : Nat) (l : List α), (l.flatMap f).drop (m * sz) = (l.drop m).flatMap f
  | 0, l => by simp
  | m + 1, [] => by simp
  | m + 1, a :: l => by
    rw [List.flatMap_cons, List.drop_succ_cons, ← drop_flat hf m l, show (m + 1) * sz = (f a).length + m * sz by rw [hf a, Nat.succ_mul]; omega, List.drop_length_add_append]
theorem take_flat {α β : Type} {f : α → List β} {sz : Nat} (hf : ∀ a, (f a).length = sz) : ∀ (m : Nat) (l : List α), (l.flatMap f).take (m * sz) = (l.take m).flatMap f
  | 0, l => by simp
  | m + 1, [] => by simp
  | m + 1, a :: l => by
    rw [List.flatMap_cons, List.take_succ_cons, List.flatMap_cons, ← take_flat hf m l, show (m + 1) * sz = (f a).length + m * sz by rw [hf a, Nat.succ_mul]; omega, List.take_length_add_append]
theorem len_flat {α β : Type} {f : α → List β} {sz : Nat} (hf : ∀ a, (f a).length = sz) (l : List α) : (l.flatMap f).length = l.length * sz := by
  induction l with
  | nil => simp
  | cons a l ih => rw [List.flatMap_cons, List.length_append, ih, hf a, List.length_cons, Nat.succ_mul]; omega
section
variable {P : Program} {L : Tab} {F : Frm} {d : Option Tmp} {ty : TypeId} {pos : String} {aft : Array Edge} {g : Option (Nat × Bool)} {ρ : Operand → AV} {hp : List Blk} {K : AV → List Blk → Prop}
theorem zPlf {α : Type} {f : α → List T} {l : List α} {t el : TypeId} {ti te : TI} {x y : Operand} {sz : Nat} {k : IntKind} {z : Int} (m : Nat) (hm : m ≤ l.length) (hf : ∀ a, (f a).length = sz) (hK : K (.c (.row (l.drop m).length sz ((l.drop m).flatMap f))) hp) (hz : z = (m : Int) := by exact rfl) (hL : TabOk P L := by exact tok) (hx : ρ x = .c (.row l.length sz (l.flatMap f)) := by exact rfl) (hy : ρ y = .c (.lit (.int k z)) := by exact rfl) (ht : L.look t = some ti := by exact rfl) (hd : ti.d = .slice el := by exact rfl) (hte : L.look el = some te := by exact rfl) (hsz : te.size = sz := by exact rfl) :
    LO P F ⟨d, .slice t x (some y) none none, ty, pos, aft, g⟩ ρ hp K := by
  refine lo_part_lo hL m hm hx hy hz ht hd hte hsz ?_
  rw [drop_flat hf m l, List.take_of_length_le (by rw [len_flat hf, List.length_drop]; exact Nat.le_refl _), ← List.length_drop]
  exact hK
theorem zPhf {α : Type} {f : α → List T} {l : List α} {t el : TypeId} {ti te : TI} {x y : Operand} {sz : Nat} {k : IntKind} {z : Int} (m : Nat) (hm : m ≤ l.length) (hf : ∀ a, (f a).length = sz) (hK : K (.c (.row (l.take m).length sz ((l.take m).flatMap f))) hp) (hz : z = (m : Int) := by exact rfl) (hL : TabOk P L := by exact tok) (hx : ρ x = .c (.row l.length sz (l.flatMap f)) := by exact rfl) (hy : ρ y = .c (.lit (.int k z)) := by exact rfl) (ht : L.look t = some ti := by exact rfl) (hd : ti.d = .slice el := by exact rfl) (hte : L.look el = some te := by exact rfl) (hsz : te.size = sz := by exact rfl) :
    LO P F ⟨d, .slice t x none (some y) none, ty, pos, aft, g⟩ ρ hp K := by
  refine lo_part_hi hL m hm hx hy hz ht hd hte hsz ?_
  rw [take_flat hf m l]
  have h : (l.take m).length = m := by rw [List.length_take]; omega
  rw [h] at hK
  exact hK
end
end Go.Proofs.YtllgibfmddihgaaDoor
