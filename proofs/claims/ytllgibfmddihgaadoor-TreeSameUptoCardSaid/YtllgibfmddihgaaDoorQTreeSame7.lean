/-
  Texts of this proof, part 7: Tme Tmf.
-/
import Derived.Test.YtllgibfmddihgaaDoorQTreeSame6
import Derived.Laws.Strings2
import Derived.Laws.StructEq
import Derived.Lib.AppendStr
import Derived.Lib.MinMax
import Derived.MapKept
namespace Go.Proofs.YtllgibfmddihgaaDoor
open Go.RowKit
theorem Us.mark_pos (x : Us) : 1 ≤ x.mark.length := by have := textB_pos x.name; simp only [Us.mark, List.length_append]; omega
theorem Mk.mark_pos (x : Mk) : 1 ≤ x.mark.length := by have := textB_pos x.name; simp only [Mk.mark, List.length_append]; omega
theorem Da.mark_pos (x : Da) : 1 ≤ x.mark.length := by have := textB_pos x.name; simp only [Da.mark, List.length_append]; omega
theorem Tr.mark_pos (x : Tr) : 1 ≤ x.mark.length := by have := textB_pos x.name; simp only [Tr.mark, List.length_append]; omega
theorem Im.mark_pos (x : Im) : 1 ≤ x.mark.length := by have := textB_pos x.trait; simp only [Im.mark, List.length_append]; omega
theorem Ac.mark_pos (x : Ac) : 1 ≤ x.mark.length := by have := textB_pos x.name; simp only [Ac.mark, List.length_append]; omega
theorem Fu.mark_pos (x : Fu) : 1 ≤ x.mark.length := by have := textB_pos x.name; simp only [Fu.mark, List.length_append]; omega
set_option maxRecDepth 100000 in
set_option maxHeartbeats 4000000 in
theorem funcsMark_af (l : List Fu) (hok : ∀ a ∈ l, a.ok) (hb : (funcsB l).length ≤ 1099511627776) : AF Tryd.prog 99 [Fu.row l] (· = .lit (.string (bs (funcsB l)))) := by
  have hm : funcsB l = numB (l.length : Nat) ++ l.flatMap Fu.mark := rfl
  rw [hm] at hb ⊢
  simp only [List.length_append] at hb
  have hll := len_flat_le Fu.mark Fu.mark_pos l
  have hN := num1_af (l.length : Nat) (inI_nat (by omega)) (by omega)
  clear hm hll
  generalize numB (l.length : Nat) = p1 at *
  refine af_enter tok Tryd.func99 Tryd.ntmps99 Tryd.results99 rfl (by kernel_rfl) rfl rfl fun F hX => ?_
  repeat (first | refine gG ?_ | refine zN1 (fun hlen => ?_) | refine zN2 (fun hlen => ?_) | refine zAl (fun _ => ?_))
  refine zCall (hN) ?_
  rintro _ rfl
  repeat (first | refine gG ?_ | refine zN1 (fun hlen => ?_) | refine zN2 (fun hlen => ?_) | refine zAl (fun _ => ?_))
  refine x_loop [3, 5, 12, 13, 14, 15, 16, 17, 18, 19, 20, 21, 22, 23, 24, 25, 26, 27, 28, 29, 30, 31, 32, 33, 34, 35, 36, 37, 38, 39, 40, 41, 42] (fun k : Nat => [(12, .c (.lit (.int .i64 (k : Nat)))), (3, .c (.lit (.string (bs (p1 ++ (l.take k).flatMap Fu.mark)))))]) (fun _ => []) (fun k => k ≤ l.length) (fun k => l.length - k) 0 (Nat.zero_le _) ⟨rfl, congrArg (fun s => AV.c (.lit (.string s))) (bs_take0 Fu.mark l (p1)).symm, trivial⟩ rfl ?_
  intro k hk
  repeat (first | refine gG ?_ | refine zN1 (fun hlen => ?_) | refine zN2 (fun hlen => ?_) | refine zAl (fun _ => ?_))
  refine x_cond rfl (fun h => ?_) (fun h => ?_)
  · have hk' : k < l.length := by simpa using h
    obtain ⟨a, ha⟩ := nth hk'
    have hmem := List.mem_of_getElem? ha
    have hsn := flat_snoc' Fu.mark ha
    have h1 := take_flat_le Fu.mark l k
    have h2 := mem_flat_le Fu.mark hmem
    clear h
    repeat (first | refine gG ?_ | refine zN1 (fun hlen => ?_) | refine zN2 (fun hlen => ?_) | refine zAl (fun _ => ?_))
    refine zIx (k) (hk') ?_
    repeat (first | refine gG ?_ | refine zN1 (fun hlen => ?_) | refine zN2 (fun hlen => ?_) | refine zAl (fun _ => ?_))
    refine zEl (Fu.at ha) (Fu.ts_len a) ?_
    obtain ⟨nm, pas, nas, tys, ou, bo⟩ := a
    have hE : Fu.mark ⟨nm, pas, nas, tys, ou, bo⟩ = textsB [nm] ++ (namesB pas ++ (namesB nas ++ (typesB tys ++ (ou.mark ++ bo.mark)))) := by simp [Fu.mark, textsB]
    rw [hE] at hsn h2
    simp only [List.length_append] at h2
    have hk2 := hok _ hmem
    have c_q1 := texts_af [nm] (by omega)
    have c_q2 := namesMark_af pas (by omega)
    have c_q3 := namesMark_af nas (by omega)
    have c_q4 := typesMark_af tys hk2.1 (by omega)
    have c_q5 := typeMark_af ou hk2.2.1 (by omega)
    have c_q6 := exprMark_af bo hk2.2.2 (by omega)
    clear hE hmem ha
    generalize textsB [nm] = q1 at *
    generalize namesB pas = q2 at *
    generalize namesB nas = q3 at *
    generalize typesB tys = q4 at *
    generalize ou.mark = q5 at *
    generalize bo.mark = q6 at *
    clear hk2
    obtain ⟨ky, ny, ly⟩ := ou
    obtain ⟨ka, na, ta, nsa, ysa, la, rsa, pa⟩ := bo
    have hfin : (p1 ++ (l.take k).flatMap Fu.mark) ++ (q1 ++ q2 ++ q3 ++ q4 ++ q5 ++ q6) = p1 ++ (l.take (k + 1)).flatMap Fu.mark := by rw [hsn]; simp only [List.append_assoc]
    repeat (first | refine gG ?_ | refine zN1 (fun hlen => ?_) | refine zN2 (fun hlen => ?_) | refine zAl (fun _ => ?_))
    refine ac_draw [1, 1, 1, 1, 1, 1, 1, 1, 1, 1, 1, 1, 1, 1, 1, 1, 1, 1, 1, 1, 1, 1, 1, 1, 1, 1, 1] [0, 1, 2, 3, 4, 5, 6, 7, 8, 9, 10, 11, 12, 13, 14, 15, 16, 17, 18, 19, 20, 21, 22, 23, 24, 25, 26] (by kernel_rfl) (by kernel_rfl) ?_
    refine gW ?_
    apply w_q; (focus exact rfl); (focus exact rfl); focus (intro _; (refine lo_call c_q1 rfl (by repeat (first | exact rzs_nil | apply rzs_cons | exact rz_c | exact rz_nil rfl | apply rz_agg | exact rz_own rfl | apply rz_fn | exact rz_ptr rfl | apply rz_tup)) ?_; rintro _ rfl); exact det_refl)
    refine gW ?_
    apply w_q; (focus exact rfl); (focus exact rfl); focus (intro _; (refine lo_call c_q2 rfl (by repeat (first | exact rzs_nil | apply rzs_cons | exact rz_c | exact rz_nil rfl | apply rz_agg | exact rz_own rfl | apply rz_fn | exact rz_ptr rfl | apply rz_tup)) ?_; rintro _ rfl); exact det_refl)
    apply w_q; (focus exact rfl); (focus exact rfl); focus (intro _; (refine zCatb (q1) (q2) (by first | omega | (simp only [List.length_append]; omega)) ?_); exact det_refl)
    refine gW ?_
    apply w_q; (focus exact rfl); (focus exact rfl); focus (intro _; (refine lo_call c_q3 rfl (by repeat (first | exact rzs_nil | apply rzs_cons | exact rz_c | exact rz_nil rfl | apply rz_agg | exact rz_own rfl | apply rz_fn | exact rz_ptr rfl | apply rz_tup)) ?_; rintro _ rfl); exact det_refl)
    apply w_q; (focus exact rfl); (focus exact rfl); focus (intro _; (refine zCatb (q1 ++ q2) (q3) (by first | omega | (simp only [List.length_append]; omega)) ?_); exact det_refl)
    refine gW ?_
    apply w_q; (focus exact rfl); (focus exact rfl); focus (intro _; (refine lo_call c_q4 rfl (by repeat (first | exact rzs_nil | apply rzs_cons | exact rz_c | exact rz_nil rfl | apply rz_agg | exact rz_own rfl | apply rz_fn | exact rz_ptr rfl | apply rz_tup)) ?_; rintro _ rfl); exact det_refl)
    apply w_q; (focus exact rfl); (focus exact rfl); focus (intro _; (refine zCatb (q1 ++ q2 ++ q3) (q4) (by first | omega | (simp only [List.length_append]; omega)) ?_); exact det_refl)
    refine gW ?_
    apply w_q; (focus exact rfl); (focus exact rfl); focus (intro _; (refine lo_call c_q5 rfl (by repeat (first | exact rzs_nil | apply rzs_cons | exact rz_c | exact rz_nil rfl | apply rz_agg | exact rz_own rfl | apply rz_fn | exact rz_ptr rfl | apply rz_tup)) ?_; rintro _ rfl); exact det_refl)
    apply w_q; (focus exact rfl); (focus exact rfl); focus (intro _; (refine zCatb (q1 ++ q2 ++ q3 ++ q4) (q5) (by first | omega | (simp only [List.length_append]; omega)) ?_); exact det_refl)
    refine gW ?_
    apply w_q; (focus exact rfl); (focus exact rfl); focus (intro _; (refine lo_call c_q6 rfl (by repeat (first | exact rzs_nil | apply rzs_cons | exact rz_c | exact rz_nil rfl | apply rz_agg | exact rz_own rfl | apply rz_fn | exact rz_ptr rfl | apply rz_tup)) ?_; rintro _ rfl); exact det_refl)
    apply w_q; (focus exact rfl); (focus exact rfl); focus (intro _; (refine zCatb (q1 ++ q2 ++ q3 ++ q4 ++ q5) (q6) (by first | omega | (simp only [List.length_append]; omega)) ?_); exact det_refl)
    apply w_q; (focus exact rfl); (focus exact rfl); focus (intro _; (refine zCatb (p1 ++ (l.take k).flatMap Fu.mark) (q1 ++ q2 ++ q3 ++ q4 ++ q5 ++ q6) (by first | omega | (simp only [List.length_append]; omega)) ?_); exact det_refl)
    refine gW ?_
    refine w_nil ?_
    repeat (first | refine gG ?_ | refine zN1 (fun hlen => ?_) | refine zN2 (fun hlen => ?_) | refine zAl (fun _ => ?_))
    exact ⟨k + 1, hk', by omega, x_wkd 0 ⟨rfl, by rw [← hfin]; rfl, trivial⟩ rfl (by repeat (first | exact ag_refl | refine ag_upd rfl ?_ | refine ag_at rfl rfl ?_))⟩
  · have hk' : k = l.length := by
      have : ¬ k < l.length := by simpa using h
      omega
    subst hk'
    rw [List.take_length]
    clear h
    repeat (first | refine gG ?_ | refine zN1 (fun hlen => ?_) | refine zN2 (fun hlen => ?_) | refine zAl (fun _ => ?_))
    first | refine zR ?_ | refine zQ ?_
    rfl
set_option maxRecDepth 100000 in
set_option maxHeartbeats 8000000 in
theorem mark_af (p : Pr) (hok : p.ok) (hb : p.mark.length ≤ 1099511627776) : AF Tryd.prog 13 [p.t] (· = .lit (.string (bs p.mark))) := by
  obtain ⟨pn, vr, us, ds, trs, ims, fus, acs⟩ := p
  obtain ⟨o1, o2, o3, o4, o5, o6, o7⟩ := hok
  have hm : Pr.mark ⟨pn, vr, us, ds, trs, ims, fus, acs⟩ = textsB [pn] ++ numsB [vr, (us.length : Nat), (ds.length : Nat), (trs.length : Nat), (ims.length : Nat), (acs.length : Nat)] ++ us.flatMap Us.mark ++ ds.flatMap Da.mark ++ trs.flatMap Tr.mark ++ ims.flatMap Im.mark ++ funcsB fus ++ acs.flatMap Ac.mark := by simp [Pr.mark, textsB, numsB, List.append_assoc]
  rw [hm] at hb ⊢
  simp only [List.length_append] at hb
  dsimp only at o1 o2 o3 o4 o5 o6 o7
  have hl1 := len_flat_le Us.mark Us.mark_pos us
  have hl2 := len_flat_le Da.mark Da.mark_pos ds
  have hl3 := len_flat_le Tr.mark Tr.mark_pos trs
  have hl4 := len_flat_le Im.mark Im.mark_pos ims
  have hl5 := len_flat_le Ac.mark Ac.mark_pos acs
  have hT := texts_af [pn] (by omega)
  have hN := nums_af [vr, (us.length : Nat), (ds.length : Nat), (trs.length : Nat), (ims.length : Nat), (acs.length : Nat)] (List.forall_mem_cons.2 ⟨o1, List.forall_mem_cons.2 ⟨inI_nat (by omega), List.forall_mem_cons.2 ⟨inI_nat (by omega), List.forall_mem_cons.2 ⟨inI_nat (by omega), List.forall_mem_cons.2 ⟨inI_nat (by omega), List.forall_mem_cons.2 ⟨inI_nat (by omega), fun _ h => by simp at h⟩⟩⟩⟩⟩⟩) (by omega)
  have hFm := funcsMark_af fus o6 (by omega)
  clear hm hl1 hl2 hl3 hl4 hl5
  generalize numsB [vr, (us.length : Nat), (ds.length : Nat), (trs.length : Nat), (ims.length : Nat), (acs.length : Nat)] = p2 at *
  generalize textsB [pn] = p1 at *
  generalize funcsB fus = p3 at *
  refine af_enter tok Tryd.func13 Tryd.ntmps13 Tryd.results13 rfl (by kernel_rfl) rfl rfl fun F hX => ?_
  repeat (first | refine gG ?_ | refine zN1 (fun hlen => ?_) | refine zN2 (fun hlen => ?_) | refine zAl (fun _ => ?_) | refine zBf ?_)
  refine ac_draw [1, 1, 1, 1, 1, 1, 1, 1, 1, 1, 1, 1, 1, 1, 1, 1, 1, 1, 1, 1, 1, 1, 1, 1, 1] [0, 1, 2, 3, 4, 5, 6, 7, 8, 9, 10, 11, 12, 13, 14, 15, 16, 17, 18, 19, 20, 21, 22, 23, 24] (by kernel_rfl) (by kernel_rfl) ?_
  refine gW ?_
  apply w_q; (focus exact rfl); (focus exact rfl); focus (intro _; (refine lo_call hT rfl (by repeat (first | exact rzs_nil | apply rzs_cons | exact rz_c | exact rz_nil rfl | apply rz_agg | exact rz_own rfl | apply rz_fn | exact rz_ptr rfl | apply rz_tup)) ?_; rintro _ rfl); exact det_refl)
  refine gW ?_
  apply w_q; (focus exact rfl); (focus exact rfl); focus (intro _; (refine lo_call hN rfl (by repeat (first | exact rzs_nil | apply rzs_cons | exact rz_c | exact rz_nil rfl | apply rz_agg | exact rz_own rfl | apply rz_fn | exact rz_ptr rfl | apply rz_tup)) ?_; rintro _ rfl); exact det_refl)
  apply w_q; (focus exact rfl); (focus exact rfl); focus (intro _; (refine zCatb p1 p2 (by omega) ?_); exact det_refl)
  refine gW ?_
  refine w_nil ?_
  repeat (first | refine gG ?_ | refine zN1 (fun hlen => ?_) | refine zN2 (fun hlen => ?_) | refine zAl (fun _ => ?_) | refine zBf ?_)
  refine x_loop [3, 5, 43, 44, 45, 46, 47, 48, 49, 50, 51, 52, 53, 54, 55, 56, 57, 58, 59, 60] (fun k : Nat => [(43, .c (.lit (.int .i64 (k : Nat)))), (3, .c (.lit (.string (bs (p1 ++ p2 ++ (us.take k).flatMap Us.mark)))))]) (fun _ => []) (fun k => k ≤ us.length) (fun k => us.length - k) 0 (Nat.zero_le _) ⟨rfl, congrArg (fun s => AV.c (.lit (.string s))) (bs_take0 Us.mark us (p1 ++ p2)).symm, trivial⟩ rfl ?_
  intro k hk
  repeat (first | refine gG ?_ | refine zN1 (fun hlen => ?_) | refine zN2 (fun hlen => ?_) | refine zAl (fun _ => ?_) | refine zBf ?_)
  refine x_cond rfl (fun h => ?_) (fun h => ?_)
  · have hk' : k < us.length := by simpa using h
    obtain ⟨a, ha⟩ := nth hk'
    have hmem := List.mem_of_getElem? ha
    have hsn := flat_snoc' Us.mark ha
    have h1 := take_flat_le Us.mark us k
    have h2 := mem_flat_le Us.mark hmem
    clear h
    repeat (first | refine gG ?_ | refine zN1 (fun hlen => ?_) | refine zN2 (fun hlen => ?_) | refine zAl (fun _ => ?_) | refine zBf ?_)
    refine zIx (k) (hk') ?_
    repeat (first | refine gG ?_ | refine zN1 (fun hlen => ?_) | refine zN2 (fun hlen => ?_) | refine zAl (fun _ => ?_) | refine zBx (fun _ => ?_))
    refine zEl (Us.at ha) (Us.ts_len a) ?_
    obtain ⟨un, lo, hi⟩ := a
    have hE : Us.mark ⟨un, lo, hi⟩ = textsB [un] ++ numsB [lo, hi] := by simp [Us.mark, textsB, numsB]
    rw [hE] at hsn h2
    simp only [List.length_append] at h2
    have hk2 := o2 _ hmem
    have c_q1 := texts_af [un] (by omega)
    have c_q2 := nums_af [lo, hi] (List.forall_mem_cons.2 ⟨hk2.1, List.forall_mem_cons.2 ⟨hk2.2, fun _ h => by simp at h⟩⟩) (by omega)
    clear hE hmem ha
    generalize textsB [un] = q1 at *
    generalize numsB [lo, hi] = q2 at *
    clear hk2
    have hfin : (p1 ++ p2 ++ (us.take k).flatMap Us.mark) ++ (q1 ++ q2) = p1 ++ p2 ++ (us.take (k + 1)).flatMap Us.mark := by rw [hsn]; simp only [List.append_assoc]
    repeat (first | refine gG ?_ | refine zN1 (fun hlen => ?_) | refine zN2 (fun hlen => ?_) | refine zAl (fun _ => ?_) | refine zBf ?_)
    refine ac_draw [1, 1, 1, 1, 1, 1, 1, 1, 1, 1, 1, 1, 1, 1] [0, 1, 2, 3, 4, 5, 6, 7, 8, 9, 10, 11, 12, 13] (by kernel_rfl) (by kernel_rfl) ?_
    refine gW ?_
    apply w_q; (focus exact rfl); (focus exact rfl); focus (intro _; (refine lo_call c_q1 rfl (by repeat (first | exact rzs_nil | apply rzs_cons | exact rz_c | exact rz_nil rfl | apply rz_agg | exact rz_own rfl | apply rz_fn | exact rz_ptr rfl | apply rz_tup)) ?_; rintro _ rfl); exact det_refl)
    refine gW ?_
    apply w_q; (focus exact rfl); (focus exact rfl); focus (intro _; (refine lo_call c_q2 rfl (by repeat (first | exact rzs_nil | apply rzs_cons | exact rz_c | exact rz_nil rfl | apply rz_agg | exact rz_own rfl | apply rz_fn | exact rz_ptr rfl | apply rz_tup)) ?_; rintro _ rfl); exact det_refl)
    apply w_q; (focus exact rfl); (focus exact rfl); focus (intro _; (refine zCatb (q1) (q2) (by first | omega | (simp only [List.length_append]; omega)) ?_); exact det_refl)
    apply w_q; (focus exact rfl); (focus exact rfl); focus (intro _; (refine zCatb (p1 ++ p2 ++ (us.take k).flatMap Us.mark) (q1 ++ q2) (by first | omega | (simp only [List.length_append]; omega)) ?_); exact det_refl)
    refine gW ?_
    refine w_nil ?_
    repeat (first | refine gG ?_ | refine zN1 (fun hlen => ?_) | refine zN2 (fun hlen => ?_) | refine zAl (fun _ => ?_) | refine zBf ?_)
    exact ⟨k + 1, hk', by omega, x_wkd 0 ⟨rfl, by rw [← hfin]; rfl, trivial⟩ rfl (by repeat (first | exact ag_refl | refine ag_upd rfl ?_ | refine ag_at rfl rfl ?_))⟩
  · have hk' : k = us.length := by
      have : ¬ k < us.length := by simpa using h
      omega
    subst hk'
    rw [List.take_length]
    clear h
    repeat (first | refine gG ?_ | refine zN1 (fun hlen => ?_) | refine zN2 (fun hlen => ?_) | refine zAl (fun _ => ?_) | refine zBf ?_)
    refine x_loop [3, 7, 9, 64, 65, 66, 67, 68, 69, 70, 71, 72, 73, 74, 75, 76, 77, 78, 79, 80, 81, 82, 83, 84, 85, 86, 87, 88, 89, 90, 91, 92, 93, 94, 95, 96, 97, 98, 99, 100, 101, 102] (fun k : Nat => [(64, .c (.lit (.int .i64 (k : Nat)))), (3, .c (.lit (.string (bs (p1 ++ p2 ++ us.flatMap Us.mark ++ (ds.take k).flatMap Da.mark)))))]) (fun _ => []) (fun k => k ≤ ds.length) (fun k => ds.length - k) 0 (Nat.zero_le _) ⟨rfl, congrArg (fun s => AV.c (.lit (.string s))) (bs_take0 Da.mark ds (p1 ++ p2 ++ us.flatMap Us.mark)).symm, trivial⟩ rfl ?_
    intro k hk
    repeat (first | refine gG ?_ | refine zN1 (fun hlen => ?_) | refine zN2 (fun hlen => ?_) | refine zAl (fun _ => ?_) | refine zBf ?_)
    refine x_cond rfl (fun h => ?_) (fun h => ?_)
    · have hk' : k < ds.length := by simpa using h
      obtain ⟨a, ha⟩ := nth hk'
      have hmem := List.mem_of_getElem? ha
      have hsn := flat_snoc' Da.mark ha
      have h1 := take_flat_le Da.mark ds k
      have h2 := mem_flat_le Da.mark hmem
      clear h
      repeat (first | refine gG ?_ | refine zN1 (fun hlen => ?_) | refine zN2 (fun hlen => ?_) | refine zAl (fun _ => ?_) | refine zBf ?_)
      refine zIx (k) (hk') ?_
      repeat (first | refine gG ?_ | refine zN1 (fun hlen => ?_) | refine zN2 (fun hlen => ?_) | refine zAl (fun _ => ?_) | refine zBx (fun _ => ?_))
      refine zEl (Da.at ha) (Da.ts_len a) ?_
      obtain ⟨dn, dps, mks⟩ := a
      have hE : Da.mark ⟨dn, dps, mks⟩ = textsB [dn] ++ (numB (mks.length : Nat) ++ (namesB dps ++ mks.flatMap Mk.mark)) := by simp [Da.mark, textsB]
      rw [hE] at hsn h2
      simp only [List.length_append] at h2
      have hmk : ∀ a ∈ mks, a.ok := o3 _ hmem
      have c_q1 := texts_af [dn] (by omega)
      have c_q2 := num1_af (mks.length : Nat) (inI_nat (by have := len_flat_le Mk.mark Mk.mark_pos mks; omega)) (by omega)
      have c_q3 := namesMark_af dps (by omega)
      clear hE hmem ha
      generalize textsB [dn] = q1 at *
      generalize numB (mks.length : Nat) = q2 at *
      generalize namesB dps = q3 at *
      have hfin : ((p1 ++ p2 ++ us.flatMap Us.mark ++ (ds.take k).flatMap Da.mark) ++ (q1 ++ q2 ++ q3)) ++ mks.flatMap Mk.mark = p1 ++ p2 ++ us.flatMap Us.mark ++ (ds.take (k + 1)).flatMap Da.mark := by rw [hsn]; simp only [List.append_assoc]
      repeat (first | refine gG ?_ | refine zN1 (fun hlen => ?_) | refine zN2 (fun hlen => ?_) | refine zAl (fun _ => ?_) | refine zBf ?_)
      refine ac_draw [1, 1, 1, 1, 1, 1, 1, 1, 1, 1, 1, 1, 1, 1, 1, 1, 1] [0, 1, 2, 3, 4, 5, 6, 7, 8, 9, 10, 11, 12, 13, 14, 15, 16] (by kernel_rfl) (by kernel_rfl) ?_
      refine gW ?_
      apply w_q; (focus exact rfl); (focus exact rfl); focus (intro _; (refine lo_call c_q1 rfl (by repeat (first | exact rzs_nil | apply rzs_cons | exact rz_c | exact rz_nil rfl | apply rz_agg | exact rz_own rfl | apply rz_fn | exact rz_ptr rfl | apply rz_tup)) ?_; rintro _ rfl); exact det_refl)
      refine gW ?_
      apply w_q; (focus exact rfl); (focus exact rfl); focus (intro _; (refine lo_call c_q2 rfl (by repeat (first | exact rzs_nil | apply rzs_cons | exact rz_c | exact rz_nil rfl | apply rz_agg | exact rz_own rfl | apply rz_fn | exact rz_ptr rfl | apply rz_tup)) ?_; rintro _ rfl); exact det_refl)
      apply w_q; (focus exact rfl); (focus exact rfl); focus (intro _; (refine zCatb (q1) (q2) (by first | omega | (simp only [List.length_append]; omega)) ?_); exact det_refl)
      refine gW ?_
      apply w_q; (focus exact rfl); (focus exact rfl); focus (intro _; (refine lo_call c_q3 rfl (by repeat (first | exact rzs_nil | apply rzs_cons | exact rz_c | exact rz_nil rfl | apply rz_agg | exact rz_own rfl | apply rz_fn | exact rz_ptr rfl | apply rz_tup)) ?_; rintro _ rfl); exact det_refl)
      apply w_q; (focus exact rfl); (focus exact rfl); focus (intro _; (refine zCatb (q1 ++ q2) (q3) (by first | omega | (simp only [List.length_append]; omega)) ?_); exact det_refl)
      apply w_q; (focus exact rfl); (focus exact rfl); focus (intro _; (refine zCatb (p1 ++ p2 ++ us.flatMap Us.mark ++ (ds.take k).flatMap Da.mark) (q1 ++ q2 ++ q3) (by first | omega | (simp only [List.length_append]; omega)) ?_); exact det_refl)
      refine gW ?_
      refine w_nil ?_
      repeat (first | refine gG ?_ | refine zN1 (fun hlen => ?_) | refine zN2 (fun hlen => ?_) | refine zAl (fun _ => ?_) | refine zBf ?_)
      refine x_drop 0 rfl ?_
      refine x_loop [3, 9, 87, 88, 89, 90, 91, 92, 93, 94, 95, 96, 97, 98, 99, 100, 101] (fun j : Nat => [(87, .c (.lit (.int .i64 (j : Nat)))), (3, .c (.lit (.string (bs ((p1 ++ p2 ++ us.flatMap Us.mark ++ (ds.take k).flatMap Da.mark) ++ (q1 ++ q2 ++ q3) ++ (mks.take j).flatMap Mk.mark)))))]) (fun _ => []) (fun j => j ≤ mks.length) (fun j => mks.length - j) 0 (Nat.zero_le _) ⟨rfl, congrArg (fun s => AV.c (.lit (.string s))) (bs_take0 Mk.mark mks ((p1 ++ p2 ++ us.flatMap Us.mark ++ (ds.take k).flatMap Da.mark) ++ (q1 ++ q2 ++ q3))).symm, trivial⟩ rfl ?_
      intro j hj
      repeat (first | refine gG ?_ | refine zN1 (fun hlen => ?_) | refine zN2 (fun hlen => ?_) | refine zAl (fun _ => ?_) | refine zBf ?_)
      refine x_cond rfl (fun h => ?_) (fun h => ?_)
      · have hj' : j < mks.length := by simpa using h
        obtain ⟨a, ha2⟩ := nth hj'
        have hmem2 := List.mem_of_getElem? ha2
        have hsn2 := flat_snoc' Mk.mark ha2
        have g1 := take_flat_le Mk.mark mks j
        have g2 := mem_flat_le Mk.mark hmem2
        clear h
        repeat (first | refine gG ?_ | refine zN1 (fun hlen => ?_) | refine zN2 (fun hlen => ?_) | refine zAl (fun _ => ?_) | refine zBf ?_)
        refine zIx (j) (hj') ?_
        repeat (first | refine gG ?_ | refine zN1 (fun hlen => ?_) | refine zN2 (fun hlen => ?_) | refine zAl (fun _ => ?_) | refine zBx (fun _ => ?_))
        refine zEl (Mk.at ha2) (Mk.ts_len a) ?_
        obtain ⟨mn, mas⟩ := a
        have hE2 : Mk.mark ⟨mn, mas⟩ = textsB [mn] ++ typesB mas := by simp [Mk.mark, textsB]
        rw [hE2] at hsn2 g2
        simp only [List.length_append] at g2
        have hj2 := hmk _ hmem2
        have c_r1 := texts_af [mn] (by omega)
        have c_r2 := typesMark_af mas hj2 (by omega)
        clear hE2 hmem2 ha2
        generalize textsB [mn] = r1 at *
        generalize typesB mas = r2 at *
        clear hj2
        have hfin2 : ((p1 ++ p2 ++ us.flatMap Us.mark ++ (ds.take k).flatMap Da.mark) ++ (q1 ++ q2 ++ q3) ++ (mks.take j).flatMap Mk.mark) ++ (r1 ++ r2) = (p1 ++ p2 ++ us.flatMap Us.mark ++ (ds.take k).flatMap Da.mark) ++ (q1 ++ q2 ++ q3) ++ (mks.take (j + 1)).flatMap Mk.mark := by rw [hsn2]; simp only [List.append_assoc]
        repeat (first | refine gG ?_ | refine zN1 (fun hlen => ?_) | refine zN2 (fun hlen => ?_) | refine zAl (fun _ => ?_) | refine zBf ?_)
        refine ac_draw [1, 1, 1, 1, 1, 1, 1, 1, 1, 1, 1] [0, 1, 2, 3, 4, 5, 6, 7, 8, 9, 10] (by kernel_rfl) (by kernel_rfl) ?_
        refine gW ?_
        apply w_q; (focus exact rfl); (focus exact rfl); focus (intro _; (refine lo_call c_r1 rfl (by repeat (first | exact rzs_nil | apply rzs_cons | exact rz_c | exact rz_nil rfl | apply rz_agg | exact rz_own rfl | apply rz_fn | exact rz_ptr rfl | apply rz_tup)) ?_; rintro _ rfl); exact det_refl)
        refine gW ?_
        apply w_q; (focus exact rfl); (focus exact rfl); focus (intro _; (refine lo_call c_r2 rfl (by repeat (first | exact rzs_nil | apply rzs_cons | exact rz_c | exact rz_nil rfl | apply rz_agg | exact rz_own rfl | apply rz_fn | exact rz_ptr rfl | apply rz_tup)) ?_; rintro _ rfl); exact det_refl)
        apply w_q; (focus exact rfl); (focus exact rfl); focus (intro _; (refine zCatb (r1) (r2) (by first | omega | (simp only [List.length_append]; omega)) ?_); exact det_refl)
        apply w_q; (focus exact rfl); (focus exact rfl); focus (intro _; (refine zCatb ((p1 ++ p2 ++ us.flatMap Us.mark ++ (ds.take k).flatMap Da.mark) ++ (q1 ++ q2 ++ q3) ++ (mks.take j).flatMap Mk.mark) (r1 ++ r2) (by first | omega | (simp only [List.length_append]; omega)) ?_); exact det_refl)
        refine gW ?_
        refine w_nil ?_
        repeat (first | refine gG ?_ | refine zN1 (fun hlen => ?_) | refine zN2 (fun hlen => ?_) | refine zAl (fun _ => ?_) | refine zBf ?_)
        exact ⟨j + 1, hj', by omega, x_wkd 0 ⟨rfl, by rw [← hfin2]; rfl, trivial⟩ rfl (by repeat (first | exact ag_refl | refine ag_upd rfl ?_ | refine ag_at rfl rfl ?_))⟩
      · have hj' : j = mks.length := by
          have : ¬ j < mks.length := by simpa using h
          omega
        subst hj'
        rw [List.take_length]
        clear h
        repeat (first | refine gG ?_ | refine zN1 (fun hlen => ?_) | refine zN2 (fun hlen => ?_) | refine zAl (fun _ => ?_) | refine zBf ?_)
        exact ⟨k + 1, hk', by omega, x_wkd 0 ⟨rfl, by rw [← hfin]; rfl, trivial⟩ rfl (by repeat (first | exact ag_refl | refine ag_upd rfl ?_ | refine ag_at rfl rfl ?_))⟩
    · have hk' : k = ds.length := by
        have : ¬ k < ds.length := by simpa using h
        omega
      subst hk'
      rw [List.take_length]
      clear h
      repeat (first | refine gG ?_ | refine zN1 (fun hlen => ?_) | refine zN2 (fun hlen => ?_) | refine zAl (fun _ => ?_) | refine zBf ?_)
      refine x_loop [3, 11, 106, 107, 108, 109, 110, 111, 112, 113, 114, 115, 116, 117, 118, 119, 120] (fun k : Nat => [(106, .c (.lit (.int .i64 (k : Nat)))), (3, .c (.lit (.string (bs (p1 ++ p2 ++ us.flatMap Us.mark ++ ds.flatMap Da.mark ++ (trs.take k).flatMap Tr.mark)))))]) (fun _ => []) (fun k => k ≤ trs.length) (fun k => trs.length - k) 0 (Nat.zero_le _) ⟨rfl, congrArg (fun s => AV.c (.lit (.string s))) (bs_take0 Tr.mark trs (p1 ++ p2 ++ us.flatMap Us.mark ++ ds.flatMap Da.mark)).symm, trivial⟩ rfl ?_
      intro k hk
      repeat (first | refine gG ?_ | refine zN1 (fun hlen => ?_) | refine zN2 (fun hlen => ?_) | refine zAl (fun _ => ?_) | refine zBf ?_)
      refine x_cond rfl (fun h => ?_) (fun h => ?_)
      · have hk' : k < trs.length := by simpa using h
        obtain ⟨a, ha⟩ := nth hk'
        have hmem := List.mem_of_getElem? ha
        have hsn := flat_snoc' Tr.mark ha
        have h1 := take_flat_le Tr.mark trs k
        have h2 := mem_flat_le Tr.mark hmem
        clear h
        repeat (first | refine gG ?_ | refine zN1 (fun hlen => ?_) | refine zN2 (fun hlen => ?_) | refine zAl (fun _ => ?_) | refine zBf ?_)
        refine zIx (k) (hk') ?_
        repeat (first | refine gG ?_ | refine zN1 (fun hlen => ?_) | refine zN2 (fun hlen => ?_) | refine zAl (fun _ => ?_) | refine zBx (fun _ => ?_))
        refine zEl (Tr.at ha) (Tr.ts_len a) ?_
        obtain ⟨tn, tfs⟩ := a
        have hE : Tr.mark ⟨tn, tfs⟩ = textsB [tn] ++ funcsB tfs := by simp [Tr.mark, textsB]
        rw [hE] at hsn h2
        simp only [List.length_append] at h2
        have hk2 := o4 _ hmem
        have c_q1 := texts_af [tn] (by omega)
        have c_q2 := funcsMark_af tfs hk2 (by omega)
        clear hE hmem ha
        generalize textsB [tn] = q1 at *
        generalize funcsB tfs = q2 at *
        clear hk2
        have hfin : (p1 ++ p2 ++ us.flatMap Us.mark ++ ds.flatMap Da.mark ++ (trs.take k).flatMap Tr.mark) ++ (q1 ++ q2) = p1 ++ p2 ++ us.flatMap Us.mark ++ ds.flatMap Da.mark ++ (trs.take (k + 1)).flatMap Tr.mark := by rw [hsn]; simp only [List.append_assoc]
        repeat (first | refine gG ?_ | refine zN1 (fun hlen => ?_) | refine zN2 (fun hlen => ?_) | refine zAl (fun _ => ?_) | refine zBf ?_)
        refine ac_draw [1, 1, 1, 1, 1, 1, 1, 1, 1, 1, 1] [0, 1, 2, 3, 4, 5, 6, 7, 8, 9, 10] (by kernel_rfl) (by kernel_rfl) ?_
        refine gW ?_
        apply w_q; (focus exact rfl); (focus exact rfl); focus (intro _; (refine lo_call c_q1 rfl (by repeat (first | exact rzs_nil | apply rzs_cons | exact rz_c | exact rz_nil rfl | apply rz_agg | exact rz_own rfl | apply rz_fn | exact rz_ptr rfl | apply rz_tup)) ?_; rintro _ rfl); exact det_refl)
        refine gW ?_
        apply w_q; (focus exact rfl); (focus exact rfl); focus (intro _; (refine lo_call c_q2 rfl (by repeat (first | exact rzs_nil | apply rzs_cons | exact rz_c | exact rz_nil rfl | apply rz_agg | exact rz_own rfl | apply rz_fn | exact rz_ptr rfl | apply rz_tup)) ?_; rintro _ rfl); exact det_refl)
        apply w_q; (focus exact rfl); (focus exact rfl); focus (intro _; (refine zCatb (q1) (q2) (by first | omega | (simp only [List.length_append]; omega)) ?_); exact det_refl)
        apply w_q; (focus exact rfl); (focus exact rfl); focus (intro _; (refine zCatb (p1 ++ p2 ++ us.flatMap Us.mark ++ ds.flatMap Da.mark ++ (trs.take k).flatMap Tr.mark) (q1 ++ q2) (by first | omega | (simp only [List.length_append]; omega)) ?_); exact det_refl)
        refine gW ?_
        refine w_nil ?_
        repeat (first | refine gG ?_ | refine zN1 (fun hlen => ?_) | refine zN2 (fun hlen => ?_) | refine zAl (fun _ => ?_) | refine zBf ?_)
        exact ⟨k + 1, hk', by omega, x_wkd 0 ⟨rfl, by rw [← hfin]; rfl, trivial⟩ rfl (by repeat (first | exact ag_refl | refine ag_upd rfl ?_ | refine ag_at rfl rfl ?_))⟩
      · have hk' : k = trs.length := by
          have : ¬ k < trs.length := by simpa using h
          omega
        subst hk'
        rw [List.take_length]
        clear h
        repeat (first | refine gG ?_ | refine zN1 (fun hlen => ?_) | refine zN2 (fun hlen => ?_) | refine zAl (fun _ => ?_) | refine zBf ?_)
        refine x_loop [3, 13, 124, 125, 126, 127, 128, 129, 130, 131, 132, 133, 134, 135, 136, 137, 138, 139, 140] (fun k : Nat => [(124, .c (.lit (.int .i64 (k : Nat)))), (3, .c (.lit (.string (bs (p1 ++ p2 ++ us.flatMap Us.mark ++ ds.flatMap Da.mark ++ trs.flatMap Tr.mark ++ (ims.take k).flatMap Im.mark)))))]) (fun _ => []) (fun k => k ≤ ims.length) (fun k => ims.length - k) 0 (Nat.zero_le _) ⟨rfl, congrArg (fun s => AV.c (.lit (.string s))) (bs_take0 Im.mark ims (p1 ++ p2 ++ us.flatMap Us.mark ++ ds.flatMap Da.mark ++ trs.flatMap Tr.mark)).symm, trivial⟩ rfl ?_
        intro k hk
        repeat (first | refine gG ?_ | refine zN1 (fun hlen => ?_) | refine zN2 (fun hlen => ?_) | refine zAl (fun _ => ?_) | refine zBf ?_)
        refine x_cond rfl (fun h => ?_) (fun h => ?_)
        · have hk' : k < ims.length := by simpa using h
          obtain ⟨a, ha⟩ := nth hk'
          have hmem := List.mem_of_getElem? ha
          have hsn := flat_snoc' Im.mark ha
          have h1 := take_flat_le Im.mark ims k
          have h2 := mem_flat_le Im.mark hmem
          clear h
          repeat (first | refine gG ?_ | refine zN1 (fun hlen => ?_) | refine zN2 (fun hlen => ?_) | refine zAl (fun _ => ?_) | refine zBf ?_)
          refine zIx (k) (hk') ?_
          repeat (first | refine gG ?_ | refine zN1 (fun hlen => ?_) | refine zN2 (fun hlen => ?_) | refine zAl (fun _ => ?_) | refine zBx (fun _ => ?_))
          refine zEl (Im.at ha) (Im.ts_len a) ?_
          obtain ⟨it, idt, ifs⟩ := a
          have hE : Im.mark ⟨it, idt, ifs⟩ = textsB [it, idt] ++ funcsB ifs := by simp [Im.mark, textsB]
          rw [hE] at hsn h2
          simp only [List.length_append] at h2
          have hk2 := o5 _ hmem
          have c_q1 := texts_af [it, idt] (by omega)
          have c_q2 := funcsMark_af ifs hk2 (by omega)
          clear hE hmem ha
          generalize textsB [it, idt] = q1 at *
          generalize funcsB ifs = q2 at *
          clear hk2
          have hfin : (p1 ++ p2 ++ us.flatMap Us.mark ++ ds.flatMap Da.mark ++ trs.flatMap Tr.mark ++ (ims.take k).flatMap Im.mark) ++ (q1 ++ q2) = p1 ++ p2 ++ us.flatMap Us.mark ++ ds.flatMap Da.mark ++ trs.flatMap Tr.mark ++ (ims.take (k + 1)).flatMap Im.mark := by rw [hsn]; simp only [List.append_assoc]
          repeat (first | refine gG ?_ | refine zN1 (fun hlen => ?_) | refine zN2 (fun hlen => ?_) | refine zAl (fun _ => ?_) | refine zBf ?_)
          refine ac_draw [1, 1, 1, 1, 1, 1, 1, 1, 1, 1, 1, 1, 1] [0, 1, 2, 3, 4, 5, 6, 7, 8, 9, 10, 11, 12] (by kernel_rfl) (by kernel_rfl) ?_
          refine gW ?_
          apply w_q; (focus exact rfl); (focus exact rfl); focus (intro _; (refine lo_call c_q1 rfl (by repeat (first | exact rzs_nil | apply rzs_cons | exact rz_c | exact rz_nil rfl | apply rz_agg | exact rz_own rfl | apply rz_fn | exact rz_ptr rfl | apply rz_tup)) ?_; rintro _ rfl); exact det_refl)
          refine gW ?_
          apply w_q; (focus exact rfl); (focus exact rfl); focus (intro _; (refine lo_call c_q2 rfl (by repeat (first | exact rzs_nil | apply rzs_cons | exact rz_c | exact rz_nil rfl | apply rz_agg | exact rz_own rfl | apply rz_fn | exact rz_ptr rfl | apply rz_tup)) ?_; rintro _ rfl); exact det_refl)
          apply w_q; (focus exact rfl); (focus exact rfl); focus (intro _; (refine zCatb (q1) (q2) (by first | omega | (simp only [List.length_append]; omega)) ?_); exact det_refl)
          apply w_q; (focus exact rfl); (focus exact rfl); focus (intro _; (refine zCatb (p1 ++ p2 ++ us.flatMap Us.mark ++ ds.flatMap Da.mark ++ trs.flatMap Tr.mark ++ (ims.take k).flatMap Im.mark) (q1 ++ q2) (by first | omega | (simp only [List.length_append]; omega)) ?_); exact det_refl)
          refine gW ?_
          refine w_nil ?_
          repeat (first | refine gG ?_ | refine zN1 (fun hlen => ?_) | refine zN2 (fun hlen => ?_) | refine zAl (fun _ => ?_) | refine zBf ?_)
          exact ⟨k + 1, hk', by omega, x_wkd 0 ⟨rfl, by rw [← hfin]; rfl, trivial⟩ rfl (by repeat (first | exact ag_refl | refine ag_upd rfl ?_ | refine ag_at rfl rfl ?_))⟩
        · have hk' : k = ims.length := by
            have : ¬ k < ims.length := by simpa using h
            omega
          subst hk'
          rw [List.take_length]
          clear h
          repeat (first | refine gG ?_ | refine zN1 (fun hlen => ?_) | refine zN2 (fun hlen => ?_) | refine zAl (fun _ => ?_) | refine zBf ?_)
          refine zCall (hFm) ?_
          rintro _ rfl
          repeat (first | refine gG ?_ | refine zN1 (fun hlen => ?_) | refine zN2 (fun hlen => ?_) | refine zAl (fun _ => ?_) | refine zBf ?_)
          refine zCatb (p1 ++ p2 ++ us.flatMap Us.mark ++ ds.flatMap Da.mark ++ trs.flatMap Tr.mark ++ ims.flatMap Im.mark) p3 (by simp only [List.length_append]; omega) ?_
          repeat (first | refine gG ?_ | refine zN1 (fun hlen => ?_) | refine zN2 (fun hlen => ?_) | refine zAl (fun _ => ?_) | refine zBf ?_)
          refine x_loop [3, 15, 149, 150, 151, 152, 153, 154, 155, 156, 157, 158, 159, 160, 161, 162, 163, 164, 165, 166, 167, 168, 169, 170, 171, 172, 173, 174, 175] (fun k : Nat => [(149, .c (.lit (.int .i64 (k : Nat)))), (3, .c (.lit (.string (bs (p1 ++ p2 ++ us.flatMap Us.mark ++ ds.flatMap Da.mark ++ trs.flatMap Tr.mark ++ ims.flatMap Im.mark ++ p3 ++ (acs.take k).flatMap Ac.mark)))))]) (fun _ => []) (fun k => k ≤ acs.length) (fun k => acs.length - k) 0 (Nat.zero_le _) ⟨rfl, congrArg (fun s => AV.c (.lit (.string s))) (bs_take0 Ac.mark acs (p1 ++ p2 ++ us.flatMap Us.mark ++ ds.flatMap Da.mark ++ trs.flatMap Tr.mark ++ ims.flatMap Im.mark ++ p3)).symm, trivial⟩ rfl ?_
          intro k hk
          repeat (first | refine gG ?_ | refine zN1 (fun hlen => ?_) | refine zN2 (fun hlen => ?_) | refine zAl (fun _ => ?_) | refine zBf ?_)
          refine x_cond rfl (fun h => ?_) (fun h => ?_)
          · have hk' : k < acs.length := by simpa using h
            obtain ⟨a, ha⟩ := nth hk'
            have hmem := List.mem_of_getElem? ha
            have hsn := flat_snoc' Ac.mark ha
            have h1 := take_flat_le Ac.mark acs k
            have h2 := mem_flat_le Ac.mark hmem
            clear h
            repeat (first | refine gG ?_ | refine zN1 (fun hlen => ?_) | refine zN2 (fun hlen => ?_) | refine zAl (fun _ => ?_) | refine zBf ?_)
            refine zIx (k) (hk') ?_
            repeat (first | refine gG ?_ | refine zN1 (fun hlen => ?_) | refine zN2 (fun hlen => ?_) | refine zAl (fun _ => ?_) | refine zBx (fun _ => ?_))
            refine zEl (Ac.at ha) (Ac.ts_len a) ?_
            obtain ⟨an, ans, ats, ou, bo⟩ := a
            have hE : Ac.mark ⟨an, ans, ats, ou, bo⟩ = textsB [an] ++ (namesB ans ++ (typesB ats ++ (ou.mark ++ bo.mark))) := by simp [Ac.mark, textsB]
            rw [hE] at hsn h2
            simp only [List.length_append] at h2
            have hk2 := o7 _ hmem
            have c_q1 := texts_af [an] (by omega)
            have c_q2 := namesMark_af ans (by omega)
            have c_q3 := typesMark_af ats hk2.1 (by omega)
            have c_q4 := typeMark_af ou hk2.2.1 (by omega)
            have c_q5 := exprMark_af bo hk2.2.2 (by omega)
            clear hE hmem ha
            generalize textsB [an] = q1 at *
            generalize namesB ans = q2 at *
            generalize typesB ats = q3 at *
            generalize ou.mark = q4 at *
            generalize bo.mark = q5 at *
            clear hk2
            obtain ⟨ky, ny, ly⟩ := ou
            obtain ⟨ka, na, ta, nsa, ysa, la, rsa, pa⟩ := bo
            have hfin : (p1 ++ p2 ++ us.flatMap Us.mark ++ ds.flatMap Da.mark ++ trs.flatMap Tr.mark ++ ims.flatMap Im.mark ++ p3 ++ (acs.take k).flatMap Ac.mark) ++ (q1 ++ q2 ++ q3 ++ q4 ++ q5) = p1 ++ p2 ++ us.flatMap Us.mark ++ ds.flatMap Da.mark ++ trs.flatMap Tr.mark ++ ims.flatMap Im.mark ++ p3 ++ (acs.take (k + 1)).flatMap Ac.mark := by rw [hsn]; simp only [List.append_assoc]
            repeat (first | refine gG ?_ | refine zN1 (fun hlen => ?_) | refine zN2 (fun hlen => ?_) | refine zAl (fun _ => ?_) | refine zBf ?_)
            refine ac_draw [1, 1, 1, 1, 1, 1, 1, 1, 1, 1, 1, 1, 1, 1, 1, 1, 1, 1, 1, 1, 1, 1, 1] [0, 1, 2, 3, 4, 5, 6, 7, 8, 9, 10, 11, 12, 13, 14, 15, 16, 17, 18, 19, 20, 21, 22] (by kernel_rfl) (by kernel_rfl) ?_
            refine gW ?_
            apply w_q; (focus exact rfl); (focus exact rfl); focus (intro _; (refine lo_call c_q1 rfl (by repeat (first | exact rzs_nil | apply rzs_cons | exact rz_c | exact rz_nil rfl | apply rz_agg | exact rz_own rfl | apply rz_fn | exact rz_ptr rfl | apply rz_tup)) ?_; rintro _ rfl); exact det_refl)
            refine gW ?_
            apply w_q; (focus exact rfl); (focus exact rfl); focus (intro _; (refine lo_call c_q2 rfl (by repeat (first | exact rzs_nil | apply rzs_cons | exact rz_c | exact rz_nil rfl | apply rz_agg | exact rz_own rfl | apply rz_fn | exact rz_ptr rfl | apply rz_tup)) ?_; rintro _ rfl); exact det_refl)
            apply w_q; (focus exact rfl); (focus exact rfl); focus (intro _; (refine zCatb (q1) (q2) (by first | omega | (simp only [List.length_append]; omega)) ?_); exact det_refl)
            refine gW ?_
            apply w_q; (focus exact rfl); (focus exact rfl); focus (intro _; (refine lo_call c_q3 rfl (by repeat (first | exact rzs_nil | apply rzs_cons | exact rz_c | exact rz_nil rfl | apply rz_agg | exact rz_own rfl | apply rz_fn | exact rz_ptr rfl | apply rz_tup)) ?_; rintro _ rfl); exact det_refl)
            apply w_q; (focus exact rfl); (focus exact rfl); focus (intro _; (refine zCatb (q1 ++ q2) (q3) (by first | omega | (simp only [List.length_append]; omega)) ?_); exact det_refl)
            refine gW ?_
            apply w_q; (focus exact rfl); (focus exact rfl); focus (intro _; (refine lo_call c_q4 rfl (by repeat (first | exact rzs_nil | apply rzs_cons | exact rz_c | exact rz_nil rfl | apply rz_agg | exact rz_own rfl | apply rz_fn | exact rz_ptr rfl | apply rz_tup)) ?_; rintro _ rfl); exact det_refl)
            apply w_q; (focus exact rfl); (focus exact rfl); focus (intro _; (refine zCatb (q1 ++ q2 ++ q3) (q4) (by first | omega | (simp only [List.length_append]; omega)) ?_); exact det_refl)
            refine gW ?_
            apply w_q; (focus exact rfl); (focus exact rfl); focus (intro _; (refine lo_call c_q5 rfl (by repeat (first | exact rzs_nil | apply rzs_cons | exact rz_c | exact rz_nil rfl | apply rz_agg | exact rz_own rfl | apply rz_fn | exact rz_ptr rfl | apply rz_tup)) ?_; rintro _ rfl); exact det_refl)
            apply w_q; (focus exact rfl); (focus exact rfl); focus (intro _; (refine zCatb (q1 ++ q2 ++ q3 ++ q4) (q5) (by first | omega | (simp only [List.length_append]; omega)) ?_); exact det_refl)
            apply w_q; (focus exact rfl); (focus exact rfl); focus (intro _; (refine zCatb (p1 ++ p2 ++ us.flatMap Us.mark ++ ds.flatMap Da.mark ++ trs.flatMap Tr.mark ++ ims.flatMap Im.mark ++ p3 ++ (acs.take k).flatMap Ac.mark) (q1 ++ q2 ++ q3 ++ q4 ++ q5) (by first | omega | (simp only [List.length_append]; omega)) ?_); exact det_refl)
            refine gW ?_
            refine w_nil ?_
            repeat (first | refine gG ?_ | refine zN1 (fun hlen => ?_) | refine zN2 (fun hlen => ?_) | refine zAl (fun _ => ?_) | refine zBf ?_)
            exact ⟨k + 1, hk', by omega, x_wkd 0 ⟨rfl, by rw [← hfin]; rfl, trivial⟩ rfl (by repeat (first | exact ag_refl | refine ag_upd rfl ?_ | refine ag_at rfl rfl ?_))⟩
          · have hk' : k = acs.length := by
              have : ¬ k < acs.length := by simpa using h
              omega
            subst hk'
            rw [List.take_length]
            clear h
            repeat (first | refine gG ?_ | refine zN1 (fun hlen => ?_) | refine zN2 (fun hlen => ?_) | refine zAl (fun _ => ?_) | refine zBf ?_)
            first | refine zR ?_ | refine zQ ?_
            rfl
end Go.Proofs.YtllgibfmddihgaaDoor
namespace Go.Proofs.YtllgibfmddihgaaDoor
open Go.RowKit
theorem use_fields : Tryd.prog.underlying 48 = some (.struct (Tryd.prog.fieldsOf 48)) := by kernel_rfl
theorem use_held : Tryd.prog.stoodInHeld 48 = false := by kernel_rfl
theorem use_guard : Tryd.prog.eqGuardType Tryd.prog.depth 48 = false := by kernel_rfl
set_option maxRecDepth 100000 in
theorem eq_use (d : Nat) (s s' : ByteArray) (a a' b b' : Int) (w : World) :
    (Op.equalIn (d + 1 + 1) 48 (.agg [.string s, .int .i64 a, .int .i64 b].toArray) (.agg [.string s', .int .i64 a', .int .i64 b'].toArray)).run Tryd.prog w = .ok (Us.same ⟨s, a, b⟩ ⟨s', a', b'⟩) w := by
  rw [run_equalIn_struct w (d + 1) 48 _ _ use_fields use_held]
  have h1 := use_fields
  rw [Tryd.underlying48] at h1
  injection h1 with h1
  injection h1 with h1
  rw [← h1]
  have e1 : ∀ x y : ByteArray, (x.toList == y.toList) = decide (x = y) := fun x y => str_eq
  by_cases hs : s = s' <;> by_cases ha : a = a' <;> by_cases hb : b = b' <;>
    simp [Op.eqFields, part, Tryd.isAgg9, Tryd.isAgg3, run_equalIn_string w _ _ _ _ Tryd.underlying9, run_equalIn_int w _ _ _ _ _ _ Tryd.underlying3, e1, Us.same, hs, ha, hb]
theorem lo_neqU {F : Frm} {d : Option Tmp} {ty : TypeId} {pos : String} {aft : Array Edge} {g : Option (Nat × Bool)} {ρ : Operand → AV} {hp : List Blk} {K : AV → List Blk → Prop} {t' : TypeId} {x y : Operand} (u v : Us) (h : K (.c (.lit (.bool (!u.same v)))) hp) (hx : ρ x = .c (.agg u.ts)) (hy : ρ y = .c (.agg v.ts)) : LO Tryd.prog F ⟨d, .binOp .neq 48 x y t', ty, pos, aft, g⟩ ρ hp K := by
  obtain ⟨s, a, b⟩ := u
  obtain ⟨s', a', b'⟩ := v
  refine LO.same (fun M e w he hh => ?_) h
  have h1 := he x (by simp [Op.operands])
  rw [hx] at h1
  have h2 := he y (by simp [Op.operands])
  rw [hy] at h2
  simp only [RA, RT, Us.ts, RTs] at h1 h2
  obtain ⟨xs, h1, q0, r0, rfl, rfl, q1, r1, rfl, rfl, q2, r2, rfl, rfl, rfl⟩ := h1
  obtain ⟨ys, h2, q0, r0, rfl, rfl, q1, r1, rfl, rfl, q2, r2, rfl, rfl, rfl⟩ := h2
  refine ⟨.bool (!(Us.same ⟨s, a, b⟩ ⟨s', a', b'⟩)), ?_, by simp only [RA, RT]⟩
  have hg := run_eqGuard_agg (P := Tryd.prog) w .neq 48 x y [.string s, .int .i64 a, .int .i64 b].toArray [.string s', .int .i64 a', .int .i64 b'].toArray use_guard
  have hr := run_neq_struct (P := Tryd.prog) w 48 [.string s, .int .i64 a, .int .i64 b].toArray [.string s', .int .i64 a', .int .i64 b'].toArray
  have he2 := eq_use 9998 s s' a a' b b' w
  rw [show (9998 + 1 + 1) = 10000 from rfl] at he2
  rw [he2, Result.andThen_ok] at hr
  simp [execOp, h1, h2, hg, hr]
set_option maxRecDepth 100000 in
set_option maxHeartbeats 1000000 in
theorem eqStrs_af (l r : List ByteArray) : AF Tryd.prog 39 [strRow l, strRow r] (· = .lit (.bool (eqBy eqStr l r))) := by
  refine af_enter tok Tryd.func39 Tryd.ntmps39 Tryd.results39 rfl (by kernel_rfl) rfl rfl fun F hX => ?_
  repeat (first | refine gG ?_ | refine zN1 (fun hlen => ?_) | refine zN2 (fun hlen => ?_))
  refine x_cond rfl (fun h => ?_) (fun h => ?_)
  · repeat (first | refine gG ?_ | refine zN1 (fun hlen => ?_) | refine zN2 (fun hlen => ?_))
    first | refine zR ?_ | refine zQ ?_
    have : l.length ≠ r.length := by have := h; simp at this; omega
    rw [eqBy_len this]
    rfl
  · have hlr : l.length = r.length := by have := h; simp at this; omega
    clear h
    repeat (first | refine gG ?_ | refine zN1 (fun hlen => ?_) | refine zN2 (fun hlen => ?_))
    refine x_loop [4, 5, 13, 14, 15, 16, 17, 18, 19, 20, 21, 22, 23, 24, 25] (fun k : Nat => [(13, .c (.lit (.int .i64 k)))]) (fun _ => []) (fun k => k ≤ l.length ∧ eqBy eqStr l r = eqBy eqStr (l.drop k) (r.drop k)) (fun k => l.length - k) 0 ⟨Nat.zero_le _, rfl⟩ ⟨rfl, trivial⟩ rfl fun k hk => ?_
    repeat (first | refine gG ?_ | refine zN1 (fun hlen => ?_) | refine zN2 (fun hlen => ?_))
    refine x_cond rfl (fun h => ?_) (fun h => ?_)
    · have hk' : k < l.length := by simpa using h
      have hk2 : k < r.length := hlr ▸ hk'
      obtain ⟨a, ha⟩ := nth hk'
      obtain ⟨b, hb⟩ := nth hk2
      have hstep : eqBy eqStr (l.drop k) (r.drop k) = (decide (a = b) && eqBy eqStr (l.drop (k + 1)) (r.drop (k + 1))) := eqBy_step ha hb
      have h1 : (l.flatMap strTs)[k * 1]? = some (.lit (.string a)) := by rw [Nat.mul_one]; exact str_at ha
      have h2 : (r.flatMap strTs)[k * 1]? = some (.lit (.string b)) := by rw [Nat.mul_one]; exact str_at hb
      clear h
      repeat (first | refine gG ?_ | refine zN1 (fun hlen => ?_) | refine zN2 (fun hlen => ?_))
      refine ac_draw [1, 1, 1, 1, 1, 1, 1, 1, 1] [0, 1, 2, 3, 4, 5, 6, 7, 8] (by kernel_rfl) (by kernel_rfl) ?_
      refine gW ?_
      apply w_q; (focus exact rfl); (focus exact rfl); focus (intro _; (refine zIx k hk' ?_); exact det_refl)
      apply w_q; (focus exact rfl); (focus exact rfl); focus (intro _; (refine zEl1 h1 ?_); exact det_refl)
      refine gW ?_
      apply w_q; (focus exact rfl); (focus exact rfl); focus (intro _; (refine zIx k hk2 ?_); exact det_refl)
      apply w_q; (focus exact rfl); (focus exact rfl); focus (intro _; (refine zEl1 h2 ?_); exact det_refl)
      refine gW ?_
      refine w_nil ?_
      cases d1 : decide (a = b)
      · repeat (first | refine gG ?_ | refine zN1 (fun hlen => ?_) | refine zN2 (fun hlen => ?_))
        first | refine zR ?_ | refine zQ ?_
        rw [hk.2, hstep, d1]
        rfl
      · repeat (first | refine gG ?_ | refine zN1 (fun hlen => ?_) | refine zN2 (fun hlen => ?_))
        exact ⟨k + 1, ⟨hk', by rw [hk.2, hstep, d1, Bool.true_and]⟩, by omega, x_wkd 0 ⟨rfl, trivial⟩ rfl (by repeat (first | exact ag_refl | refine ag_upd rfl ?_ | refine ag_at rfl rfl ?_))⟩
    · have hk' : k = l.length := by
        have : ¬ k < l.length := by simpa using h
        omega
      repeat (first | refine gG ?_ | refine zN1 (fun hlen => ?_) | refine zN2 (fun hlen => ?_))
      first | refine zR ?_ | refine zQ ?_
      rw [hk.2, hk', List.drop_length, hlr, List.drop_length]
      rfl
set_option maxRecDepth 100000 in
set_option maxHeartbeats 1000000 in
theorem eqUses_af (l r : List Us) : AF Tryd.prog 90 [Us.row l, Us.row r] (· = .lit (.bool (eqBy Us.same l r))) := by
  refine af_enter tok Tryd.func90 Tryd.ntmps90 Tryd.results90 rfl (by kernel_rfl) rfl rfl fun F hX => ?_
  repeat (first | refine gG ?_ | refine zN1 (fun hlen => ?_) | refine zN2 (fun hlen => ?_))
  refine x_cond rfl (fun h => ?_) (fun h => ?_)
  · repeat (first | refine gG ?_ | refine zN1 (fun hlen => ?_) | refine zN2 (fun hlen => ?_))
    first | refine zR ?_ | refine zQ ?_
    have : l.length ≠ r.length := by have := h; simp at this; omega
    rw [eqBy_len this]
    rfl
  · have hlr : l.length = r.length := by have := h; simp at this; omega
    clear h
    repeat (first | refine gG ?_ | refine zN1 (fun hlen => ?_) | refine zN2 (fun hlen => ?_))
    refine x_loop [4, 5, 13, 14, 15, 16, 17, 18, 19, 20, 21, 22, 23, 24, 25] (fun k : Nat => [(13, .c (.lit (.int .i64 k)))]) (fun _ => []) (fun k => k ≤ l.length ∧ eqBy Us.same l r = eqBy Us.same (l.drop k) (r.drop k)) (fun k => l.length - k) 0 ⟨Nat.zero_le _, rfl⟩ ⟨rfl, trivial⟩ rfl fun k hk => ?_
    repeat (first | refine gG ?_ | refine zN1 (fun hlen => ?_) | refine zN2 (fun hlen => ?_))
    refine x_cond rfl (fun h => ?_) (fun h => ?_)
    · have hk' : k < l.length := by simpa using h
      have hk2 : k < r.length := hlr ▸ hk'
      obtain ⟨a, ha⟩ := nth hk'
      obtain ⟨b, hb⟩ := nth hk2
      have hstep : eqBy Us.same (l.drop k) (r.drop k) = (a.same b && eqBy Us.same (l.drop (k + 1)) (r.drop (k + 1))) := eqBy_step ha hb
      clear h
      repeat (first | refine gG ?_ | refine zN1 (fun hlen => ?_) | refine zN2 (fun hlen => ?_))
      refine ac_draw [1, 1, 1, 1, 1, 1, 1, 1, 1] [0, 1, 2, 3, 4, 5, 6, 7, 8] (by kernel_rfl) (by kernel_rfl) ?_
      refine gW ?_
      apply w_q; (focus exact rfl); (focus exact rfl); focus (intro _; (refine zIx k hk' ?_); exact det_refl)
      apply w_q; (focus exact rfl); (focus exact rfl); focus (intro _; (refine zEl (Us.at ha) (Us.ts_len a) ?_); exact det_refl)
      refine gW ?_
      apply w_q; (focus exact rfl); (focus exact rfl); focus (intro _; (refine zIx k hk2 ?_); exact det_refl)
      apply w_q; (focus exact rfl); (focus exact rfl); focus (intro _; (refine zEl (Us.at hb) (Us.ts_len b) ?_); exact det_refl)
      apply w_q; (focus exact rfl); (focus exact rfl); focus (intro _; (refine lo_neqU a b ?_ rfl rfl); exact det_refl)
      refine w_nil ?_
      generalize a.same b = ab at *
      cases ab
      · have d1 : (!false) = true := rfl
        repeat (first | refine gG ?_ | refine zN1 (fun hlen => ?_) | refine zN2 (fun hlen => ?_))
        first | refine zR ?_ | refine zQ ?_
        rw [hk.2, hstep]
        rfl
      · have d1 : (!true) = false := rfl
        repeat (first | refine gG ?_ | refine zN1 (fun hlen => ?_) | refine zN2 (fun hlen => ?_))
        exact ⟨k + 1, ⟨hk', by rw [hk.2, hstep, Bool.true_and]⟩, by omega, x_wkd 0 ⟨rfl, trivial⟩ rfl (by repeat (first | exact ag_refl | refine ag_upd rfl ?_ | refine ag_at rfl rfl ?_))⟩
    · have hk' : k = l.length := by
        have : ¬ k < l.length := by simpa using h
        omega
      repeat (first | refine gG ?_ | refine zN1 (fun hlen => ?_) | refine zN2 (fun hlen => ?_))
      first | refine zR ?_ | refine zQ ?_
      rw [hk.2, hk', List.drop_length, hlr, List.drop_length]
      rfl
end Go.Proofs.YtllgibfmddihgaaDoor
