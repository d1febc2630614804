/-
  Texts of this proof, part 13: Pej.
-/
import Derived.Test.YtbfomgchjlkopaaDoorQPageLines12
import Derived.Laws.IdiomRangeMap
import Derived.MapKept
namespace Go.Proofs.YtbfomgchjlkopaaDoor
open Go.RowKit
set_option maxRecDepth 100000 in
set_option maxHeartbeats 16000000 in
theorem pageEntries_af (p : Pr) (hp : p.size ≤ 1048576) : AF Tryd.prog 6 [p.t] (· = En.row (entS p)) := by
  have hln := entr_len p
  unfold En.row entS
  obtain ⟨nm, ve, us, ds, ts, ims, fs, acs⟩ := p
  have h0 : nm.size + Us.sizes us + Da.sizes ds + Tr.sizes ts + Im.sizes ims + Fu.sizes fs + Ac.sizes acs + 1 ≤ 1048576 := hp
  have l1 := Da.len_sizes ds
  have l2 := Tr.len_sizes ts
  have l3 := Fu.len_sizes fs
  have l4 := Ac.len_sizes acs
  have hE : entr ⟨nm, ve, us, ds, ts, ims, fs, acs⟩ = ds.flatMap daE ++ ts.flatMap trE ++ fs.map fuE ++ acs.map acE := rfl
  rw [hE] at hln ⊢
  have hlA : (ds.flatMap daE ++ ts.flatMap trE ++ fs.map fuE ++ acs.map acE).length ≤ 1048576 := Nat.le_trans hln hp
  clear hE hp
  have m1 : (ds.flatMap daE).length ≤ 1048576 := by simp only [List.length_append] at hlA; omega
  have m2 : (ts.flatMap trE).length ≤ 1048576 := by simp only [List.length_append] at hlA; omega
  have n1 : ∀ k, ((ds.take k).flatMap daE).length ≤ 1048576 := fun k => Nat.le_trans (enf_le daE ds k) m1
  have n2 : ∀ k, ((ts.take k).flatMap trE).length ≤ 1048576 := fun k => Nat.le_trans (enf_le trE ts k) m2
  clear hln
  refine af_enter tok Tryd.func6 Tryd.ntmps6 Tryd.results6 rfl (by kernel_rfl) rfl rfl fun F hX => ?_
  repeat (first | refine gG ?_ | refine zN1 (fun hlen => ?_) | refine zN2 (fun hlen => ?_) | refine zSub ?_ | refine zAl (fun _ => ?_) | refine zBx (fun _ => ?_) | refine zAp (fun _ => ?_))
  rename_i b0
  refine x_own 3 40 4 rfl rfl rfl rfl rfl ?_
  refine x_loop [3, 5, 6, 7, 8, 9, 10, 11, 29, 30, 31, 32, 33, 34, 35, 36, 37, 38, 39, 40, 41, 42, 43, 44, 45, 46, 47, 48, 49, 50, 51, 52, 53, 54, 55, 56, 57, 58, 59, 60, 61, 62, 63, 64, 65, 66, 67, 68, 69, 70, 71, 72, 73, 74, 75, 76, 77, 78, 79, 80, 81, 82, 83, 84, 85, 86, 87, 88, 89, 90, 91, 92, 93, 94, 95, 96, 97, 98, 99, 100, 101, 102, 103, 104, 105, 106, 107, 108] (fun y : Nat × Value => [(29, .c (.lit (.int .i64 y.1))), (3, .own 1 y.2)]) (fun y => [.box b0 29 [.c (.lit (.string nm)), .c (.lit (.int .i64 ve)), .c (Us.row us), .c (Da.row ds), .c (Tr.row ts), .c (Im.row ims), .c (Fu.row fs), .c (Ac.row acs)], .row y.2 40 4 ((ds.take y.1).flatMap daE).length (((ds.take y.1).flatMap daE).flatMap En.ts)]) (fun y => y.1 ≤ ds.length) (fun y => ds.length - y.1) (0, .slice none 0 0) (Nat.zero_le _) ⟨rfl, rfl, trivial⟩ rfl ?_
  rintro ⟨k, v1⟩ hk
  dsimp only at hk ⊢
  have hlk : ((ds.take k).flatMap daE).length ≤ 4194304 := by
    try simp only [List.length_append, List.length_map, List.length_take]
    have := n1 k; omega
  repeat (first | refine gG ?_ | refine zN1 (fun hlen => ?_) | refine zN2 (fun hlen => ?_) | refine zSub ?_ | refine zAl (fun _ => ?_) | refine zBx (fun _ => ?_) | refine zAp (fun _ => ?_))
  refine x_cond rfl (fun h => ?_) (fun h => ?_)
  · have hk' : k < ds.length := by simpa using h
    obtain ⟨a, ha⟩ := nth hk'
    have haz := Da.size_mem (List.mem_of_getElem? ha)
    clear h
    -- BEGIN body1
    repeat (first | refine gG ?_ | refine zN1 (fun hlen => ?_) | refine zN2 (fun hlen => ?_) | refine zSub ?_ | refine zAl (fun _ => ?_) | refine zBx (fun _ => ?_) | refine zAp (fun _ => ?_))
    refine zIx (k) (hk') ?_
    repeat (first | refine gG ?_ | refine zN1 (fun hlen => ?_) | refine zN2 (fun hlen => ?_) | refine zSub ?_ | refine zAl (fun _ => ?_) | refine zBx (fun _ => ?_) | refine zAp (fun _ => ?_))
    refine zEl (Da.at ha) (Da.ts_len a) ?_
    obtain ⟨na, pa, ma⟩ := a
    have hz : na.size + strSize pa + Mk.sizes ma + 1 ≤ 1048576 := by
      have : Da.size ⟨na, pa, ma⟩ = na.size + strSize pa + Mk.sizes ma + 1 := rfl
      omega
    have hsq := square_af pa (by omega)
    have hpz := parS_size pa
    have hml := Mk.len_sizes ma
    have hdE : daE ⟨na, pa, ma⟩ = ma.map (mkE ⟨na, pa, ma⟩) ++ [⟨na, 1, ⟨#[]⟩, linT (⟨#[100, 97, 116, 97, 32]⟩ ++ na ++ parS pa ++ ⟨#[32, 61, 32]⟩) ma ma.length⟩] := by
      rw [linT_all]
      rfl
    have hsn : ((ds.take (k + 1)).flatMap daE).flatMap En.ts = ((ds.take k).flatMap daE ++ ma.map (mkE ⟨na, pa, ma⟩)).flatMap En.ts ++ [.lit (.string na), .lit (.int .i64 1), .lit (.string ⟨#[]⟩), .lit (.string (linT (⟨#[100, 97, 116, 97, 32]⟩ ++ na ++ parS pa ++ ⟨#[32, 61, 32]⟩) ma ma.length))] := by
      rw [enf_snoc daE ha, hdE, ← List.append_assoc, fl_app (_ ++ _)]
      rfl
    have hsl : ((ds.take (k + 1)).flatMap daE).length = ((ds.take k).flatMap daE ++ ma.map (mkE ⟨na, pa, ma⟩)).length + 1 := by
      rw [enf_snoc daE ha, hdE]
      simp only [List.length_append, List.length_cons, List.length_nil]
      omega
    have hmk : ∀ m : Mk, mkE ⟨na, pa, ma⟩ m = ⟨m.name, 2, na, descS m ++ ⟨#[32, 111, 102, 32]⟩ ++ na ++ parS pa⟩ := fun _ => rfl
    have hpr : (⟨#[100, 97, 116, 97, 32]⟩ ++ na ++ parS pa ++ ⟨#[32, 61, 32]⟩ : ByteArray).size ≤ na.size + (parS pa).size + 8 := by
      rw [ByteArray.size_append, ByteArray.size_append, ByteArray.size_append]
      have h3 : (⟨#[100, 97, 116, 97, 32]⟩ : ByteArray).size = 5 := rfl
      have h4 : (⟨#[32, 61, 32]⟩ : ByteArray).size = 3 := rfl
      omega
    generalize mkE ⟨na, pa, ma⟩ = mf at *
    generalize parS pa = px at *
    clear hdE haz
    repeat (first | refine gG ?_ | refine zN1 (fun hlen => ?_) | refine zN2 (fun hlen => ?_) | refine zSub ?_ | refine zAl (fun _ => ?_) | refine zBx (fun _ => ?_) | refine zAp (fun _ => ?_))
    rename_i b1
    refine ac_draw [1, 1, 1, 1, 1, 1, 1, 1, 1] [0, 1, 2, 3, 4, 5, 6, 7, 8] (by kernel_rfl) (by kernel_rfl) ?_
    refine gW ?_
    apply w_q; (focus exact rfl); (focus exact rfl); focus (intro _; (refine zCat ?_); exact det_refl)
    refine gW ?_
    apply w_q; (focus exact rfl); (focus exact rfl); focus (intro _; (refine lo_call hsq rfl (by repeat (first | exact rzs_nil | apply rzs_cons | exact rz_c | exact rz_nil rfl | apply rz_agg | exact rz_own rfl | apply rz_fn | exact rz_ptr rfl | apply rz_tup)) ?_; rintro _ rfl); exact det_refl)
    apply w_q; (focus exact rfl); (focus exact rfl); focus (intro _; (refine zCat ?_); exact det_refl)
    apply w_q; (focus exact rfl); (focus exact rfl); focus (intro _; (refine zCat ?_); exact det_refl)
    refine gW ?_
    refine w_nil ?_
    repeat (first | refine gG ?_ | refine zN1 (fun hlen => ?_) | refine zN2 (fun hlen => ?_) | refine zSub ?_ | refine zAl (fun _ => ?_) | refine zBx (fun _ => ?_) | refine zAp (fun _ => ?_))
    generalize ⟨#[100, 97, 116, 97, 32]⟩ ++ na ++ px ++ ⟨#[32, 61, 32]⟩ = pr at *
    refine x_loop [3, 6, 7, 8, 9, 10, 11, 44, 45, 46, 47, 48, 49, 50, 51, 52, 53, 54, 55, 56, 57, 58, 59, 60, 61, 62, 63, 64, 65, 66, 67, 68, 69, 70, 71, 72, 73, 74, 75, 76, 77, 78, 79, 80, 81, 82, 83, 84, 85, 86, 87, 88, 89, 90, 91, 92, 93, 94, 95, 96, 97, 98, 99, 100] (fun y : Nat × Value => [(44, .c (.lit (.int .i64 y.1))), (3, .own 1 y.2), (6, .c (.lit (.string (linT pr ma y.1))))]) (fun y => [.box b0 29 [.c (.lit (.string nm)), .c (.lit (.int .i64 ve)), .c (Us.row us), .c (Da.row ds), .c (Tr.row ts), .c (Im.row ims), .c (Fu.row fs), .c (Ac.row acs)], .row y.2 40 4 ((ds.take k).flatMap daE ++ (ma.take y.1).map mf).length (((ds.take k).flatMap daE ++ (ma.take y.1).map mf).flatMap En.ts), .box b1 56 [.c (.lit (.string na)), .c (strRow pa), .c (Mk.row ma)]]) (fun y => y.1 ≤ ma.length) (fun y => ma.length - y.1) (0, v1) (Nat.zero_le _) ⟨rfl, rfl, by rw [linT_zero]; rfl, trivial⟩ (by simp) ?_
    rintro ⟨i, w1⟩ hi
    dsimp only at hi ⊢
    have hlk2 : ((ds.take k).flatMap daE ++ (ma.take i).map mf).length ≤ 4194304 := by
      have := n1 k
      simp only [List.length_append, List.length_map, List.length_take]
      omega
    repeat (first | refine gG ?_ | refine zN1 (fun hlen => ?_) | refine zN2 (fun hlen => ?_) | refine zSub ?_ | refine zAl (fun _ => ?_) | refine zBx (fun _ => ?_) | refine zAp (fun _ => ?_))
    refine x_cond rfl (fun h => ?_) (fun h => ?_)
    · have hi' : i < ma.length := by simpa using h
      obtain ⟨m, hm⟩ := nth hi'
      have hmz := Mk.size_mem (List.mem_of_getElem? hm)
      have hsn2 : ((ds.take k).flatMap daE ++ (ma.take (i + 1)).map mf).flatMap En.ts = ((ds.take k).flatMap daE ++ (ma.take i).map mf).flatMap En.ts ++ [.lit (.string m.name), .lit (.int .i64 2), .lit (.string na), .lit (.string (descS m ++ ⟨#[32, 111, 102, 32]⟩ ++ na ++ px))] := by
        rw [enm_snoc mf hm, ← List.append_assoc, fl_app (_ ++ _), hmk m]
        rfl
      have hsl2 : ((ds.take k).flatMap daE ++ (ma.take (i + 1)).map mf).length = ((ds.take k).flatMap daE ++ (ma.take i).map mf).length + 1 := by
        rw [enm_snoc mf hm]
        simp only [List.length_append, List.length_cons, List.length_nil]
        omega
      have hdz : (descS m).size ≤ 14680064 := by have := descS_size m; omega
      have hlz : (linT pr ma i).size ≤ 20000000 := by have := linT_size pr ma i; omega
      have hl0 : i = 0 → linT pr ma (i + 1) = linT pr ma i ++ descS m := fun h0 => linT_one hm h0
      have hl1 : ¬ i = 0 → linT pr ma (i + 1) = linT pr ma i ++ ⟨#[32, 124, 32]⟩ ++ descS m := fun h0 => linT_succ hm h0
      clear h
      repeat (first | refine gG ?_ | refine zN1 (fun hlen => ?_) | refine zN2 (fun hlen => ?_) | refine zSub ?_ | refine zAl (fun _ => ?_) | refine zBx (fun _ => ?_) | refine zAp (fun _ => ?_))
      refine zIx (i) (hi') ?_
      repeat (first | refine gG ?_ | refine zN1 (fun hlen => ?_) | refine zN2 (fun hlen => ?_) | refine zSub ?_ | refine zAl (fun _ => ?_) | refine zBx (fun _ => ?_) | refine zAp (fun _ => ?_))
      refine zEl (Mk.at hm) (Mk.ts_len m) ?_
      obtain ⟨nb, ya⟩ := m
      have hmz' : nb.size + Y.sizes ya + 1 ≤ 1048576 := by
        have : Mk.size ⟨nb, ya⟩ = nb.size + Y.sizes ya + 1 := rfl
        omega
      have hyl := Y.len_sizes ya
      dsimp only at hsn2
      clear hm hmz
      generalize hlx : linT pr ma i = lx at *
      repeat (first | refine gG ?_ | refine zN1 (fun hlen => ?_) | refine zN2 (fun hlen => ?_) | refine zSub ?_ | refine zAl (fun _ => ?_) | refine zBx (fun _ => ?_) | refine zAp (fun _ => ?_))
      rename_i b2
      refine x_loop [9, 10, 11, 54, 55, 56, 57, 58, 59, 60, 61, 62, 63, 64, 65, 66, 67, 68, 69] (fun q : Nat => [(54, .c (.lit (.int .i64 (q : Nat)))), (9, .c (.lit (.string (argT nb ya q))))]) (fun _ => [.box b0 29 [.c (.lit (.string nm)), .c (.lit (.int .i64 ve)), .c (Us.row us), .c (Da.row ds), .c (Tr.row ts), .c (Im.row ims), .c (Fu.row fs), .c (Ac.row acs)], .row w1 40 4 ((ds.take k).flatMap daE ++ (ma.take i).map mf).length (((ds.take k).flatMap daE ++ (ma.take i).map mf).flatMap En.ts), .box b1 56 [.c (.lit (.string na)), .c (strRow pa), .c (Mk.row ma)], .box b2 59 [.c (.lit (.string nb)), .c (Y.row ya)]]) (fun q => q ≤ ya.length) (fun q => ya.length - q) 0 (Nat.zero_le _) ⟨rfl, rfl, trivial⟩ rfl ?_
      rintro q hq
      repeat (first | refine gG ?_ | refine zN1 (fun hlen => ?_) | refine zN2 (fun hlen => ?_) | refine zSub ?_ | refine zAl (fun _ => ?_) | refine zBx (fun _ => ?_) | refine zAp (fun _ => ?_))
      refine x_cond rfl (fun h => ?_) (fun h => ?_)
      · have hq' : q < ya.length := by simpa using h
        obtain ⟨y, hy⟩ := nth hq'
        have hyz := Y.size_mem (List.mem_of_getElem? hy)
        have hf := typeText_af y (by omega)
        have htz : y.text.size ≤ 12582912 := by have := y.text_size; omega
        have haz := argT_size nb ya q
        clear h
        by_cases hq0 : q = 0
        · have ha1 : argT nb ya (q + 1) = argT nb ya q ++ (⟨#[40]⟩ ++ y.text) := by subst hq0; exact argT_one hy
          have hmin : min ((q : Nat) : Int) 1 = ((0 : Nat) : Int) := by subst hq0; rfl
          repeat (first | refine gG ?_ | refine zN1 (fun hlen => ?_) | refine zN2 (fun hlen => ?_) | refine zSub ?_ | refine zAl (fun _ => ?_) | refine zBx (fun _ => ?_) | refine zAp (fun _ => ?_))
          refine zIx (q) (hq') ?_
          repeat (first | refine gG ?_ | refine zN1 (fun hlen => ?_) | refine zN2 (fun hlen => ?_) | refine zSub ?_ | refine zAl (fun _ => ?_) | refine zBx (fun _ => ?_) | refine zAp (fun _ => ?_))
          refine zEl (Y.at hy) (Y.ts_len y) ?_
          generalize y.text = ax at *
          obtain ⟨ky, ty, ly⟩ := y
          generalize argT nb ya q = sx at *
          clear hq0 hy hyz
          repeat (first | refine gG ?_ | refine zN1 (fun hlen => ?_) | refine zN2 (fun hlen => ?_) | refine zSub ?_ | refine zAl (fun _ => ?_) | refine zBx (fun _ => ?_) | refine zAp (fun _ => ?_))
          refine ac_draw [1, 1, 1, 1, 1, 1, 1, 1, 1, 1, 1] [0, 1, 2, 3, 4, 5, 6, 7, 8, 9, 10] (by kernel_rfl) (by kernel_rfl) ?_
          refine gW ?_
          apply w_q; (focus exact rfl); (focus exact rfl); focus (intro _; (refine zMin ?_); exact det_refl)
          apply w_q; (focus exact rfl); (focus exact rfl); focus (intro _; (refine zIx (n := 2) (hz := hmin) 0 (by decide) ?_); exact det_refl)
          apply w_q; (focus exact rfl); (focus exact rfl); focus (intro _; (refine zEl1 rfl ?_); exact det_refl)
          refine gW ?_
          apply w_q; (focus exact rfl); (focus exact rfl); focus (intro _; (refine lo_call hf rfl (by repeat (first | exact rzs_nil | apply rzs_cons | exact rz_c | exact rz_nil rfl | apply rz_agg | exact rz_own rfl | apply rz_fn | exact rz_ptr rfl | apply rz_tup)) ?_; rintro _ rfl); exact det_refl)
          apply w_q; (focus exact rfl); (focus exact rfl); focus (intro _; (refine zCat ?_); exact det_refl)
          apply w_q; (focus exact rfl); (focus exact rfl); focus (intro _; (refine zCat ?_); exact det_refl)
          refine gW ?_
          refine w_nil ?_
          repeat (first | refine gG ?_ | refine zN1 (fun hlen => ?_) | refine zN2 (fun hlen => ?_) | refine zSub ?_ | refine zAl (fun _ => ?_) | refine zBx (fun _ => ?_) | refine zAp (fun _ => ?_))
          exact ⟨q + 1, hq', by omega, x_wkd 4 ⟨rfl, by rw [ha1]; rfl, trivial⟩ rfl (by repeat (first | exact ag_refl | refine ag_upd rfl ?_ | refine ag_at rfl rfl ?_))⟩
        · have ha1 := argT_succ (n := nb) hy (Nat.pos_of_ne_zero hq0)
          have hmin : min ((q : Nat) : Int) 1 = ((1 : Nat) : Int) := by omega
          repeat (first | refine gG ?_ | refine zN1 (fun hlen => ?_) | refine zN2 (fun hlen => ?_) | refine zSub ?_ | refine zAl (fun _ => ?_) | refine zBx (fun _ => ?_) | refine zAp (fun _ => ?_))
          refine zIx (q) (hq') ?_
          repeat (first | refine gG ?_ | refine zN1 (fun hlen => ?_) | refine zN2 (fun hlen => ?_) | refine zSub ?_ | refine zAl (fun _ => ?_) | refine zBx (fun _ => ?_) | refine zAp (fun _ => ?_))
          refine zEl (Y.at hy) (Y.ts_len y) ?_
          generalize y.text = ax at *
          obtain ⟨ky, ty, ly⟩ := y
          generalize argT nb ya q = sx at *
          clear hq0 hy hyz
          repeat (first | refine gG ?_ | refine zN1 (fun hlen => ?_) | refine zN2 (fun hlen => ?_) | refine zSub ?_ | refine zAl (fun _ => ?_) | refine zBx (fun _ => ?_) | refine zAp (fun _ => ?_))
          refine ac_draw [1, 1, 1, 1, 1, 1, 1, 1, 1, 1, 1] [0, 1, 2, 3, 4, 5, 6, 7, 8, 9, 10] (by kernel_rfl) (by kernel_rfl) ?_
          refine gW ?_
          apply w_q; (focus exact rfl); (focus exact rfl); focus (intro _; (refine zMin ?_); exact det_refl)
          apply w_q; (focus exact rfl); (focus exact rfl); focus (intro _; (refine zIx (n := 2) (hz := hmin) 1 (by decide) ?_); exact det_refl)
          apply w_q; (focus exact rfl); (focus exact rfl); focus (intro _; (refine zEl1 rfl ?_); exact det_refl)
          refine gW ?_
          apply w_q; (focus exact rfl); (focus exact rfl); focus (intro _; (refine lo_call hf rfl (by repeat (first | exact rzs_nil | apply rzs_cons | exact rz_c | exact rz_nil rfl | apply rz_agg | exact rz_own rfl | apply rz_fn | exact rz_ptr rfl | apply rz_tup)) ?_; rintro _ rfl); exact det_refl)
          apply w_q; (focus exact rfl); (focus exact rfl); focus (intro _; (refine zCat ?_); exact det_refl)
          apply w_q; (focus exact rfl); (focus exact rfl); focus (intro _; (refine zCat ?_); exact det_refl)
          refine gW ?_
          refine w_nil ?_
          repeat (first | refine gG ?_ | refine zN1 (fun hlen => ?_) | refine zN2 (fun hlen => ?_) | refine zSub ?_ | refine zAl (fun _ => ?_) | refine zBx (fun _ => ?_) | refine zAp (fun _ => ?_))
          exact ⟨q + 1, hq', by omega, x_wkd 4 ⟨rfl, by rw [ha1]; rfl, trivial⟩ rfl (by repeat (first | exact ag_refl | refine ag_upd rfl ?_ | refine ag_at rfl rfl ?_))⟩
      have hq' : q = ya.length := by
        have : ¬ q < ya.length := by simpa using h
        omega
      subst hq'
      have haz := argT_size nb ya ya.length
      clear hq h
      by_cases hy0 : ya.length = 0
      · have d0 : decide (((ya.length : Nat) : Int) > 0) = false := decide_eq_false (by omega)
        have hda := argT_none (n := nb) hy0
        rw [hda] at hsn2 hdz hl0 hl1
        generalize argT nb ya ya.length = sx at *
        clear hda hy0
        repeat (first | refine gG ?_ | refine zN1 (fun hlen => ?_) | refine zN2 (fun hlen => ?_) | refine zSub ?_ | refine zAl (fun _ => ?_) | refine zBx (fun _ => ?_) | refine zAp (fun _ => ?_))
        by_cases hi0 : i = 0
        · have d1 : decide (((i : Nat) : Int) > 0) = false := decide_eq_false (by omega)
          have hl2 := hl0 hi0
          clear hl0 hl1 hi0
          repeat (first | refine gG ?_ | refine zN1 (fun hlen => ?_) | refine zN2 (fun hlen => ?_) | refine zSub ?_ | refine zAl (fun _ => ?_) | refine zBx (fun _ => ?_) | refine zAp (fun _ => ?_))
          refine zCat ?_
          repeat (first | refine gG ?_ | refine zN1 (fun hlen => ?_) | refine zN2 (fun hlen => ?_) | refine zSub ?_ | refine zAl (fun _ => ?_) | refine zBx (fun _ => ?_) | refine zAp (fun _ => ?_))
          refine ac_draw [1, 1, 1, 1, 1, 1, 1, 1, 1, 1, 1, 1, 1, 1, 1, 1, 2, 1] [0, 1, 2, 3, 4, 5, 6, 7, 8, 9, 10, 11, 12, 13, 14, 15, 16, 17] (by kernel_rfl) (by kernel_rfl) ?_
          refine gW ?_
          apply w_q; (focus exact rfl); (focus exact rfl); focus (intro _; (refine zCat ?_); exact det_refl)
          refine gW ?_
          apply w_q; (focus exact rfl); (focus exact rfl); focus (intro _; (refine zCat ?_); exact det_refl)
          refine gW ?_
          apply w_q; (focus exact rfl); (focus exact rfl); focus (intro _; (refine lo_call hsq rfl (by repeat (first | exact rzs_nil | apply rzs_cons | exact rz_c | exact rz_nil rfl | apply rz_agg | exact rz_own rfl | apply rz_fn | exact rz_ptr rfl | apply rz_tup)) ?_; rintro _ rfl); exact det_refl)
          apply w_q; (focus exact rfl); (focus exact rfl); focus (intro _; (refine zCat ?_); exact det_refl)
          refine gW ?_
          apply w_l; (focus exact rfl); (focus exact rfl); (refine zAp (fun _ => ?_))
          refine gW ?_
          refine w_nil ?_
          repeat (first | refine gG ?_ | refine zN1 (fun hlen => ?_) | refine zN2 (fun hlen => ?_) | refine zSub ?_ | refine zAl (fun _ => ?_) | refine zBx (fun _ => ?_) | refine zAp (fun _ => ?_))
          exact ⟨(i + 1, _), hi', by simp only; omega, x_wkd 3 ⟨rfl, rfl, by rw [hl2]; rfl, trivial⟩ (by rw [hsn2, hsl2]; rfl) (by repeat (first | exact ag_refl | refine ag_upd rfl ?_ | refine ag_at rfl rfl ?_))⟩
        · have d1 : decide (((i : Nat) : Int) > 0) = true := decide_eq_true (by omega)
          have hl2 := hl1 hi0
          clear hl0 hl1 hi0
          repeat (first | refine gG ?_ | refine zN1 (fun hlen => ?_) | refine zN2 (fun hlen => ?_) | refine zSub ?_ | refine zAl (fun _ => ?_) | refine zBx (fun _ => ?_) | refine zAp (fun _ => ?_))
          refine zCat ?_
          repeat (first | refine gG ?_ | refine zN1 (fun hlen => ?_) | refine zN2 (fun hlen => ?_) | refine zSub ?_ | refine zAl (fun _ => ?_) | refine zBx (fun _ => ?_) | refine zAp (fun _ => ?_))
          refine zCat ?_
          repeat (first | refine gG ?_ | refine zN1 (fun hlen => ?_) | refine zN2 (fun hlen => ?_) | refine zSub ?_ | refine zAl (fun _ => ?_) | refine zBx (fun _ => ?_) | refine zAp (fun _ => ?_))
          refine ac_draw [1, 1, 1, 1, 1, 1, 1, 1, 1, 1, 1, 1, 1, 1, 1, 1, 2, 1] [0, 1, 2, 3, 4, 5, 6, 7, 8, 9, 10, 11, 12, 13, 14, 15, 16, 17] (by kernel_rfl) (by kernel_rfl) ?_
          refine gW ?_
          apply w_q; (focus exact rfl); (focus exact rfl); focus (intro _; (refine zCat ?_); exact det_refl)
          refine gW ?_
          apply w_q; (focus exact rfl); (focus exact rfl); focus (intro _; (refine zCat ?_); exact det_refl)
          refine gW ?_
          apply w_q; (focus exact rfl); (focus exact rfl); focus (intro _; (refine lo_call hsq rfl (by repeat (first | exact rzs_nil | apply rzs_cons | exact rz_c | exact rz_nil rfl | apply rz_agg | exact rz_own rfl | apply rz_fn | exact rz_ptr rfl | apply rz_tup)) ?_; rintro _ rfl); exact det_refl)
          apply w_q; (focus exact rfl); (focus exact rfl); focus (intro _; (refine zCat ?_); exact det_refl)
          refine gW ?_
          apply w_l; (focus exact rfl); (focus exact rfl); (refine zAp (fun _ => ?_))
          refine gW ?_
          refine w_nil ?_
          repeat (first | refine gG ?_ | refine zN1 (fun hlen => ?_) | refine zN2 (fun hlen => ?_) | refine zSub ?_ | refine zAl (fun _ => ?_) | refine zBx (fun _ => ?_) | refine zAp (fun _ => ?_))
          exact ⟨(i + 1, _), hi', by simp only; omega, x_wkd 3 ⟨rfl, rfl, by rw [hl2]; rfl, trivial⟩ (by rw [hsn2, hsl2]; rfl) (by repeat (first | exact ag_refl | refine ag_upd rfl ?_ | refine ag_at rfl rfl ?_))⟩
      · have d0 : decide (((ya.length : Nat) : Int) > 0) = true := decide_eq_true (by omega)
        have hda := argT_some (n := nb) hy0
        rw [hda] at hsn2 hdz hl0 hl1
        generalize argT nb ya ya.length = sx at *
        clear hda hy0
        repeat (first | refine gG ?_ | refine zN1 (fun hlen => ?_) | refine zN2 (fun hlen => ?_) | refine zSub ?_ | refine zAl (fun _ => ?_) | refine zBx (fun _ => ?_) | refine zAp (fun _ => ?_))
        refine zCat ?_
        generalize sx ++ ⟨#[41]⟩ = sy at *
        repeat (first | refine gG ?_ | refine zN1 (fun hlen => ?_) | refine zN2 (fun hlen => ?_) | refine zSub ?_ | refine zAl (fun _ => ?_) | refine zBx (fun _ => ?_) | refine zAp (fun _ => ?_))
        by_cases hi0 : i = 0
        · have d1 : decide (((i : Nat) : Int) > 0) = false := decide_eq_false (by omega)
          have hl2 := hl0 hi0
          clear hl0 hl1 hi0
          repeat (first | refine gG ?_ | refine zN1 (fun hlen => ?_) | refine zN2 (fun hlen => ?_) | refine zSub ?_ | refine zAl (fun _ => ?_) | refine zBx (fun _ => ?_) | refine zAp (fun _ => ?_))
          refine zCat ?_
          repeat (first | refine gG ?_ | refine zN1 (fun hlen => ?_) | refine zN2 (fun hlen => ?_) | refine zSub ?_ | refine zAl (fun _ => ?_) | refine zBx (fun _ => ?_) | refine zAp (fun _ => ?_))
          refine ac_draw [1, 1, 1, 1, 1, 1, 1, 1, 1, 1, 1, 1, 1, 1, 1, 1, 2, 1] [0, 1, 2, 3, 4, 5, 6, 7, 8, 9, 10, 11, 12, 13, 14, 15, 16, 17] (by kernel_rfl) (by kernel_rfl) ?_
          refine gW ?_
          apply w_q; (focus exact rfl); (focus exact rfl); focus (intro _; (refine zCat ?_); exact det_refl)
          refine gW ?_
          apply w_q; (focus exact rfl); (focus exact rfl); focus (intro _; (refine zCat ?_); exact det_refl)
          refine gW ?_
          apply w_q; (focus exact rfl); (focus exact rfl); focus (intro _; (refine lo_call hsq rfl (by repeat (first | exact rzs_nil | apply rzs_cons | exact rz_c | exact rz_nil rfl | apply rz_agg | exact rz_own rfl | apply rz_fn | exact rz_ptr rfl | apply rz_tup)) ?_; rintro _ rfl); exact det_refl)
          apply w_q; (focus exact rfl); (focus exact rfl); focus (intro _; (refine zCat ?_); exact det_refl)
          refine gW ?_
          apply w_l; (focus exact rfl); (focus exact rfl); (refine zAp (fun _ => ?_))
          refine gW ?_
          refine w_nil ?_
          repeat (first | refine gG ?_ | refine zN1 (fun hlen => ?_) | refine zN2 (fun hlen => ?_) | refine zSub ?_ | refine zAl (fun _ => ?_) | refine zBx (fun _ => ?_) | refine zAp (fun _ => ?_))
          exact ⟨(i + 1, _), hi', by simp only; omega, x_wkd 3 ⟨rfl, rfl, by rw [hl2]; rfl, trivial⟩ (by rw [hsn2, hsl2]; rfl) (by repeat (first | exact ag_refl | refine ag_upd rfl ?_ | refine ag_at rfl rfl ?_))⟩
        · have d1 : decide (((i : Nat) : Int) > 0) = true := decide_eq_true (by omega)
          have hl2 := hl1 hi0
          clear hl0 hl1 hi0
          repeat (first | refine gG ?_ | refine zN1 (fun hlen => ?_) | refine zN2 (fun hlen => ?_) | refine zSub ?_ | refine zAl (fun _ => ?_) | refine zBx (fun _ => ?_) | refine zAp (fun _ => ?_))
          refine zCat ?_
          repeat (first | refine gG ?_ | refine zN1 (fun hlen => ?_) | refine zN2 (fun hlen => ?_) | refine zSub ?_ | refine zAl (fun _ => ?_) | refine zBx (fun _ => ?_) | refine zAp (fun _ => ?_))
          refine zCat ?_
          repeat (first | refine gG ?_ | refine zN1 (fun hlen => ?_) | refine zN2 (fun hlen => ?_) | refine zSub ?_ | refine zAl (fun _ => ?_) | refine zBx (fun _ => ?_) | refine zAp (fun _ => ?_))
          refine ac_draw [1, 1, 1, 1, 1, 1, 1, 1, 1, 1, 1, 1, 1, 1, 1, 1, 2, 1] [0, 1, 2, 3, 4, 5, 6, 7, 8, 9, 10, 11, 12, 13, 14, 15, 16, 17] (by kernel_rfl) (by kernel_rfl) ?_
          refine gW ?_
          apply w_q; (focus exact rfl); (focus exact rfl); focus (intro _; (refine zCat ?_); exact det_refl)
          refine gW ?_
          apply w_q; (focus exact rfl); (focus exact rfl); focus (intro _; (refine zCat ?_); exact det_refl)
          refine gW ?_
          apply w_q; (focus exact rfl); (focus exact rfl); focus (intro _; (refine lo_call hsq rfl (by repeat (first | exact rzs_nil | apply rzs_cons | exact rz_c | exact rz_nil rfl | apply rz_agg | exact rz_own rfl | apply rz_fn | exact rz_ptr rfl | apply rz_tup)) ?_; rintro _ rfl); exact det_refl)
          apply w_q; (focus exact rfl); (focus exact rfl); focus (intro _; (refine zCat ?_); exact det_refl)
          refine gW ?_
          apply w_l; (focus exact rfl); (focus exact rfl); (refine zAp (fun _ => ?_))
          refine gW ?_
          refine w_nil ?_
          repeat (first | refine gG ?_ | refine zN1 (fun hlen => ?_) | refine zN2 (fun hlen => ?_) | refine zSub ?_ | refine zAl (fun _ => ?_) | refine zBx (fun _ => ?_) | refine zAp (fun _ => ?_))
          exact ⟨(i + 1, _), hi', by simp only; omega, x_wkd 3 ⟨rfl, rfl, by rw [hl2]; rfl, trivial⟩ (by rw [hsn2, hsl2]; rfl) (by repeat (first | exact ag_refl | refine ag_upd rfl ?_ | refine ag_at rfl rfl ?_))⟩
    have hi' : i = ma.length := by
      have : ¬ i < ma.length := by simpa using h
      omega
    subst hi'
    rw [List.take_length] at *
    clear hi h
    generalize linT pr ma ma.length = lx at *
    repeat (first | refine gG ?_ | refine zN1 (fun hlen => ?_) | refine zN2 (fun hlen => ?_) | refine zSub ?_ | refine zAl (fun _ => ?_) | refine zBx (fun _ => ?_) | refine zAp (fun _ => ?_))
    exact ⟨(k + 1, _), hk', by simp only; omega, x_wkd 2 ⟨rfl, rfl, trivial⟩ (by rw [hsn, hsl]; rfl) (by repeat (first | exact ag_refl | refine ag_upd rfl ?_ | refine ag_at rfl rfl ?_))⟩
    -- END body1
  have hk' : k = ds.length := by
    have : ¬ k < ds.length := by simpa using h
    omega
  subst hk'
  rw [List.take_length] at *
  clear hk hlk h
  repeat (first | refine gG ?_ | refine zN1 (fun hlen => ?_) | refine zN2 (fun hlen => ?_) | refine zSub ?_ | refine zAl (fun _ => ?_) | refine zBx (fun _ => ?_) | refine zAp (fun _ => ?_))
  refine x_loop [3, 13, 14, 16, 112, 113, 114, 115, 116, 117, 118, 119, 120, 121, 122, 123, 124, 125, 126, 127, 128, 129, 130, 131, 132, 133, 134, 135, 136, 137, 138, 139, 140, 141, 142, 143, 144, 145, 146, 147, 148, 149, 150, 151, 152, 153, 154, 155, 156] (fun y : Nat × Value => [(112, .c (.lit (.int .i64 y.1))), (3, .own 1 y.2)]) (fun y => [.box b0 29 [.c (.lit (.string nm)), .c (.lit (.int .i64 ve)), .c (Us.row us), .c (Da.row ds), .c (Tr.row ts), .c (Im.row ims), .c (Fu.row fs), .c (Ac.row acs)], .row y.2 40 4 (ds.flatMap daE ++ (ts.take y.1).flatMap trE).length ((ds.flatMap daE ++ (ts.take y.1).flatMap trE).flatMap En.ts)]) (fun y => y.1 ≤ ts.length) (fun y => ts.length - y.1) (0, v1) (Nat.zero_le _) ⟨rfl, rfl, trivial⟩ (by simp) ?_
  rintro ⟨k, v2⟩ hk
  dsimp only at hk ⊢
  have hlk : (ds.flatMap daE ++ (ts.take k).flatMap trE).length ≤ 4194304 := by
    try simp only [List.length_append, List.length_map, List.length_take]
    have := n2 k; omega
  repeat (first | refine gG ?_ | refine zN1 (fun hlen => ?_) | refine zN2 (fun hlen => ?_) | refine zSub ?_ | refine zAl (fun _ => ?_) | refine zBx (fun _ => ?_) | refine zAp (fun _ => ?_))
  refine x_cond rfl (fun h => ?_) (fun h => ?_)
  · have hk' : k < ts.length := by simpa using h
    obtain ⟨a, ha⟩ := nth hk'
    have haz := Tr.size_mem (List.mem_of_getElem? ha)
    clear h
    -- BEGIN body2
    repeat (first | refine gG ?_ | refine zN1 (fun hlen => ?_) | refine zN2 (fun hlen => ?_) | refine zSub ?_ | refine zAl (fun _ => ?_) | refine zBx (fun _ => ?_) | refine zAp (fun _ => ?_))
    refine zIx (k) (hk') ?_
    repeat (first | refine gG ?_ | refine zN1 (fun hlen => ?_) | refine zN2 (fun hlen => ?_) | refine zSub ?_ | refine zAl (fun _ => ?_) | refine zBx (fun _ => ?_) | refine zAp (fun _ => ?_))
    refine zEl (Tr.at ha) (Tr.ts_len a) ?_
    obtain ⟨na, fa⟩ := a
    have hz : na.size + Fu.sizes fa + 1 ≤ 1048576 := by
      have : Tr.size ⟨na, fa⟩ = na.size + Fu.sizes fa + 1 := rfl
      omega
    have hls := Fu.len_sizes fa
    have z2 := names_lens fa
    have hj := joinC_af (fa.map Fu.name) (by omega)
    have hjs := joinS_size (fa.map Fu.name)
    have hxl : (fa.map Fu.name).length = fa.length := by simp
    have hdE : trE ⟨na, fa⟩ = fa.map (tfE ⟨na, fa⟩) ++ [⟨na, 3, ⟨#[]⟩, ⟨#[116, 114, 97, 105, 116, 32]⟩ ++ na ++ ⟨#[32, 61, 32]⟩ ++ joinS (fa.map Fu.name) ⟨#[44, 32]⟩⟩] := rfl
    have hsn : (ds.flatMap daE ++ (ts.take (k + 1)).flatMap trE).flatMap En.ts = (ds.flatMap daE ++ (ts.take k).flatMap trE ++ fa.map (tfE ⟨na, fa⟩)).flatMap En.ts ++ [.lit (.string na), .lit (.int .i64 3), .lit (.string ⟨#[]⟩), .lit (.string (⟨#[116, 114, 97, 105, 116, 32]⟩ ++ na ++ ⟨#[32, 61, 32]⟩ ++ joinS (fa.map Fu.name) ⟨#[44, 32]⟩))] := by
      rw [enf_snoc trE ha, hdE, ← List.append_assoc, ← List.append_assoc, fl_app (_ ++ _ ++ _)]
      rfl
    have hsl : (ds.flatMap daE ++ (ts.take (k + 1)).flatMap trE).length = (ds.flatMap daE ++ (ts.take k).flatMap trE ++ fa.map (tfE ⟨na, fa⟩)).length + 1 := by
      rw [enf_snoc trE ha, hdE]
      simp only [List.length_append, List.length_cons, List.length_nil]
      omega
    have hmk : ∀ m : Fu, tfE ⟨na, fa⟩ m = ⟨m.name, 4, na, funS m ++ ⟨#[32, 111, 102, 32]⟩ ++ na⟩ := fun _ => rfl
    generalize tfE ⟨na, fa⟩ = mf at *
    clear hdE haz
    repeat (first | refine gG ?_ | refine zN1 (fun hlen => ?_) | refine zN2 (fun hlen => ?_) | refine zSub ?_ | refine zAl (fun _ => ?_) | refine zBx (fun _ => ?_) | refine zAp (fun _ => ?_))
    rename_i b1
    refine x_own 14 9 1 rfl rfl rfl rfl rfl ?_
    refine x_loop [3, 14, 16, 119, 120, 121, 122, 123, 124, 125, 126, 127, 128, 129, 130, 131, 132, 133, 134, 135, 136, 137, 138, 139, 140, 141, 142] (fun y : Nat × Value × Value => [(119, .c (.lit (.int .i64 y.1))), (3, .own 1 y.2.1), (14, .own 3 y.2.2)]) (fun y => [.box b0 29 [.c (.lit (.string nm)), .c (.lit (.int .i64 ve)), .c (Us.row us), .c (Da.row ds), .c (Tr.row ts), .c (Im.row ims), .c (Fu.row fs), .c (Ac.row acs)], .row y.2.1 40 4 (ds.flatMap daE ++ (ts.take k).flatMap trE ++ (fa.take y.1).map mf).length ((ds.flatMap daE ++ (ts.take k).flatMap trE ++ (fa.take y.1).map mf).flatMap En.ts), .box b1 62 [.c (.lit (.string na)), .c (Fu.row fa)], .row y.2.2 9 1 ((fa.take y.1).map Fu.name).length (((fa.take y.1).map Fu.name).flatMap strTs)]) (fun y => y.1 ≤ fa.length) (fun y => fa.length - y.1) (0, v2, .slice none 0 0) (Nat.zero_le _) ⟨rfl, rfl, rfl, trivial⟩ (by simp) ?_
    rintro ⟨i, w1, u1⟩ hi
    dsimp only at hi ⊢
    have hlk2 : (ds.flatMap daE ++ (ts.take k).flatMap trE ++ (fa.take i).map mf).length ≤ 4194304 := by
      have := n2 k
      simp only [List.length_append, List.length_map, List.length_take]
      omega
    have hlk3 := len_mt Fu.name hi
    repeat (first | refine gG ?_ | refine zN1 (fun hlen => ?_) | refine zN2 (fun hlen => ?_) | refine zSub ?_ | refine zAl (fun _ => ?_) | refine zBx (fun _ => ?_) | refine zAp (fun _ => ?_))
    refine x_cond rfl (fun h => ?_) (fun h => ?_)
    · have hi' : i < fa.length := by simpa using h
      obtain ⟨m, hm⟩ := nth hi'
      have hmz := Fu.size_mem (List.mem_of_getElem? hm)
      have hfa := headText_af m (by omega)
      have hsn3 := str_snoc Fu.name hm
      have hsl3 := len_ms Fu.name hm
      have hsn2 : (ds.flatMap daE ++ (ts.take k).flatMap trE ++ (fa.take (i + 1)).map mf).flatMap En.ts = (ds.flatMap daE ++ (ts.take k).flatMap trE ++ (fa.take i).map mf).flatMap En.ts ++ [.lit (.string m.name), .lit (.int .i64 4), .lit (.string na), .lit (.string (funS m ++ ⟨#[32, 111, 102, 32]⟩ ++ na))] := by
        rw [enm_snoc mf hm, ← List.append_assoc, fl_app (_ ++ _), hmk m]
        rfl
      have hsl2 : (ds.flatMap daE ++ (ts.take k).flatMap trE ++ (fa.take (i + 1)).map mf).length = (ds.flatMap daE ++ (ts.take k).flatMap trE ++ (fa.take i).map mf).length + 1 := by
        rw [enm_snoc mf hm]
        simp only [List.length_append, List.length_cons, List.length_nil]
        omega
      have hdz : (funS m).size ≤ 20971520 := by have := funS_size m; omega
      clear h
      repeat (first | refine gG ?_ | refine zN1 (fun hlen => ?_) | refine zN2 (fun hlen => ?_) | refine zSub ?_ | refine zAl (fun _ => ?_) | refine zBx (fun _ => ?_) | refine zAp (fun _ => ?_))
      refine zIx (i) (hi') ?_
      repeat (first | refine gG ?_ | refine zN1 (fun hlen => ?_) | refine zN2 (fun hlen => ?_) | refine zSub ?_ | refine zAl (fun _ => ?_) | refine zBx (fun _ => ?_) | refine zAp (fun _ => ?_))
      refine zEl (Fu.at hm) (Fu.ts_len m) ?_
      generalize funS m = ax at *
      obtain ⟨nc, ps, ns, ys, ⟨ka, ta, la⟩, ⟨kb, nb, tb, nsb, ysb, lb, rsb, pb⟩⟩ := m
      dsimp only at hsn2 hsn3
      clear hm hmz
      repeat (first | refine gG ?_ | refine zN1 (fun hlen => ?_) | refine zN2 (fun hlen => ?_) | refine zSub ?_ | refine zAl (fun _ => ?_) | refine zBx (fun _ => ?_) | refine zAp (fun _ => ?_))
      refine ac_draw [1, 1, 1, 1, 1, 1, 1, 1, 1, 1, 1, 1, 1, 2, 1] [0, 1, 2, 3, 4, 5, 6, 7, 8, 9, 10, 11, 12, 13, 14] (by kernel_rfl) (by kernel_rfl) ?_
      refine gW ?_
      apply w_q; (focus exact rfl); (focus exact rfl); focus (intro _; (refine lo_call hfa rfl (by repeat (first | exact rzs_nil | apply rzs_cons | exact rz_c | exact rz_nil rfl | apply rz_agg | exact rz_own rfl | apply rz_fn | exact rz_ptr rfl | apply rz_tup)) ?_; rintro _ rfl); exact det_refl)
      apply w_q; (focus exact rfl); (focus exact rfl); focus (intro _; (refine zCat ?_); exact det_refl)
      refine gW ?_
      apply w_q; (focus exact rfl); (focus exact rfl); focus (intro _; (refine zCat ?_); exact det_refl)
      refine gW ?_
      apply w_l; (focus exact rfl); (focus exact rfl); (refine zAp (fun _ => ?_))
      refine gW ?_
      refine w_nil ?_
      repeat (first | refine gG ?_ | refine zN1 (fun hlen => ?_) | refine zN2 (fun hlen => ?_) | refine zSub ?_ | refine zAl (fun _ => ?_) | refine zBx (fun _ => ?_) | refine zAp (fun _ => ?_))
      exact ⟨(i + 1, _, _), hi', by simp only; omega, x_wkd 4 ⟨rfl, rfl, rfl, trivial⟩ (by rw [hsn2, hsl2, hsn3, hsl3]; rfl) (by repeat (first | exact ag_refl | refine ag_upd rfl ?_ | refine ag_at rfl rfl ?_))⟩
    have hi' : i = fa.length := by
      have : ¬ i < fa.length := by simpa using h
      omega
    subst hi'
    rw [List.take_length] at *
    clear hi h hlk3
    refine x_frz hX 14 rfl rfl rfl rfl ?_
    generalize joinS (fa.map Fu.name) ⟨#[44, 32]⟩ = jx at *
    repeat (first | refine gG ?_ | refine zN1 (fun hlen => ?_) | refine zN2 (fun hlen => ?_) | refine zSub ?_ | refine zAl (fun _ => ?_) | refine zBx (fun _ => ?_) | refine zAp (fun _ => ?_))
    refine ac_draw [1, 1, 1, 1, 1, 1, 1, 1, 1, 1, 1, 1, 2, 1] [0, 1, 2, 3, 4, 5, 6, 7, 8, 9, 10, 11, 12, 13] (by kernel_rfl) (by kernel_rfl) ?_
    refine gW ?_
    apply w_q; (focus exact rfl); (focus exact rfl); focus (intro _; (refine zCat ?_); exact det_refl)
    apply w_q; (focus exact rfl); (focus exact rfl); focus (intro _; (refine zCat ?_); exact det_refl)
    refine gW ?_
    apply w_q; (focus exact rfl); (focus exact rfl); focus (intro _; (refine lo_call hj rfl (by repeat (first | exact rzs_nil | apply rzs_cons | exact rz_c | exact rz_nil rfl | apply rz_agg | exact rz_own rfl | apply rz_fn | exact rz_ptr rfl | apply rz_tup)) ?_; rintro _ rfl); exact det_refl)
    apply w_q; (focus exact rfl); (focus exact rfl); focus (intro _; (refine zCat ?_); exact det_refl)
    refine gW ?_
    apply w_l; (focus exact rfl); (focus exact rfl); (refine zAp (fun _ => ?_))
    refine gW ?_
    refine w_nil ?_
    repeat (first | refine gG ?_ | refine zN1 (fun hlen => ?_) | refine zN2 (fun hlen => ?_) | refine zSub ?_ | refine zAl (fun _ => ?_) | refine zBx (fun _ => ?_) | refine zAp (fun _ => ?_))
    exact ⟨(k + 1, _), hk', by simp only; omega, x_wkd 2 ⟨rfl, rfl, trivial⟩ (by rw [hsn, hsl]; rfl) (by repeat (first | exact ag_refl | refine ag_upd rfl ?_ | refine ag_at rfl rfl ?_))⟩
    -- END body2
  have hk' : k = ts.length := by
    have : ¬ k < ts.length := by simpa using h
    omega
  subst hk'
  rw [List.take_length] at *
  clear hk hlk h
  repeat (first | refine gG ?_ | refine zN1 (fun hlen => ?_) | refine zN2 (fun hlen => ?_) | refine zSub ?_ | refine zAl (fun _ => ?_) | refine zBx (fun _ => ?_) | refine zAp (fun _ => ?_))
  refine x_loop [3, 18, 160, 161, 162, 163, 164, 165, 166, 167, 168, 169, 170, 171, 172] (fun y : Nat × Value => [(160, .c (.lit (.int .i64 y.1))), (3, .own 1 y.2)]) (fun y => [.box b0 29 [.c (.lit (.string nm)), .c (.lit (.int .i64 ve)), .c (Us.row us), .c (Da.row ds), .c (Tr.row ts), .c (Im.row ims), .c (Fu.row fs), .c (Ac.row acs)], .row y.2 40 4 (ds.flatMap daE ++ ts.flatMap trE ++ (fs.take y.1).map fuE).length ((ds.flatMap daE ++ ts.flatMap trE ++ (fs.take y.1).map fuE).flatMap En.ts)]) (fun y => y.1 ≤ fs.length) (fun y => fs.length - y.1) (0, v2) (Nat.zero_le _) ⟨rfl, rfl, trivial⟩ (by simp) ?_
  rintro ⟨k, v3⟩ hk
  dsimp only at hk ⊢
  have hlk : (ds.flatMap daE ++ ts.flatMap trE ++ (fs.take k).map fuE).length ≤ 4194304 := by
    try simp only [List.length_append, List.length_map, List.length_take]
    omega
  repeat (first | refine gG ?_ | refine zN1 (fun hlen => ?_) | refine zN2 (fun hlen => ?_) | refine zSub ?_ | refine zAl (fun _ => ?_) | refine zBx (fun _ => ?_) | refine zAp (fun _ => ?_))
  refine x_cond rfl (fun h => ?_) (fun h => ?_)
  · have hk' : k < fs.length := by simpa using h
    obtain ⟨a, ha⟩ := nth hk'
    have haz := Fu.size_mem (List.mem_of_getElem? ha)
    clear h
    -- BEGIN body3
    have hfa := headText_af a (by omega)
    have hfz := funS_size a
    have hsn : (ds.flatMap daE ++ ts.flatMap trE ++ (fs.take (k + 1)).map fuE).flatMap En.ts = (ds.flatMap daE ++ ts.flatMap trE ++ (fs.take k).map fuE).flatMap En.ts ++ [.lit (.string a.name), .lit (.int .i64 4), .lit (.string ⟨#[]⟩), .lit (.string (funS a))] := by
      rw [enm_snoc fuE ha, ← List.append_assoc, fl_app (_ ++ _)]
      rfl
    have hsl : (ds.flatMap daE ++ ts.flatMap trE ++ (fs.take (k + 1)).map fuE).length = (ds.flatMap daE ++ ts.flatMap trE ++ (fs.take k).map fuE).length + 1 := by
      rw [enm_snoc fuE ha, ← List.append_assoc, List.length_append (bs := [fuE a])]
      rfl
    repeat (first | refine gG ?_ | refine zN1 (fun hlen => ?_) | refine zN2 (fun hlen => ?_) | refine zSub ?_ | refine zAl (fun _ => ?_) | refine zBx (fun _ => ?_) | refine zAp (fun _ => ?_))
    refine zIx (k) (hk') ?_
    repeat (first | refine gG ?_ | refine zN1 (fun hlen => ?_) | refine zN2 (fun hlen => ?_) | refine zSub ?_ | refine zAl (fun _ => ?_) | refine zBx (fun _ => ?_) | refine zAp (fun _ => ?_))
    refine zEl (Fu.at ha) (Fu.ts_len a) ?_
    generalize funS a = ax at *
    obtain ⟨na, ps, ns, ys, ⟨ka, ta, la⟩, ⟨kb, nb, tb, nsb, ysb, lb, rsb, pb⟩⟩ := a
    dsimp only at hsn
    repeat (first | refine gG ?_ | refine zN1 (fun hlen => ?_) | refine zN2 (fun hlen => ?_) | refine zSub ?_ | refine zAl (fun _ => ?_) | refine zBx (fun _ => ?_) | refine zAp (fun _ => ?_))
    refine ac_draw [1, 1, 1, 1, 1, 1, 1, 2, 1] [0, 1, 2, 3, 4, 5, 6, 7, 8] (by kernel_rfl) (by kernel_rfl) ?_
    refine gW ?_
    apply w_q; (focus exact rfl); (focus exact rfl); focus (intro _; (refine lo_call hfa rfl (by repeat (first | exact rzs_nil | apply rzs_cons | exact rz_c | exact rz_nil rfl | apply rz_agg | exact rz_own rfl | apply rz_fn | exact rz_ptr rfl | apply rz_tup)) ?_; rintro _ rfl); exact det_refl)
    refine gW ?_
    apply w_l; (focus exact rfl); (focus exact rfl); (refine zAp (fun _ => ?_))
    refine gW ?_
    refine w_nil ?_
    repeat (first | refine gG ?_ | refine zN1 (fun hlen => ?_) | refine zN2 (fun hlen => ?_) | refine zSub ?_ | refine zAl (fun _ => ?_) | refine zBx (fun _ => ?_) | refine zAp (fun _ => ?_))
    exact ⟨(k + 1, _), hk', by simp only; omega, x_wkd 2 ⟨rfl, rfl, trivial⟩ (by rw [hsn, hsl]; rfl) (by repeat (first | exact ag_refl | refine ag_upd rfl ?_ | refine ag_at rfl rfl ?_))⟩
    -- END body3
  have hk' : k = fs.length := by
    have : ¬ k < fs.length := by simpa using h
    omega
  subst hk'
  rw [List.take_length] at *
  clear hk hlk h
  repeat (first | refine gG ?_ | refine zN1 (fun hlen => ?_) | refine zN2 (fun hlen => ?_) | refine zSub ?_ | refine zAl (fun _ => ?_) | refine zBx (fun _ => ?_) | refine zAp (fun _ => ?_))
  refine x_loop [3, 20, 176, 177, 178, 179, 180, 181, 182, 183, 184, 185, 186, 187, 188, 189, 190, 191, 192, 193, 194, 195, 196, 197, 198, 199, 200] (fun y : Nat × Value => [(176, .c (.lit (.int .i64 y.1))), (3, .own 1 y.2)]) (fun y => [.box b0 29 [.c (.lit (.string nm)), .c (.lit (.int .i64 ve)), .c (Us.row us), .c (Da.row ds), .c (Tr.row ts), .c (Im.row ims), .c (Fu.row fs), .c (Ac.row acs)], .row y.2 40 4 (ds.flatMap daE ++ ts.flatMap trE ++ fs.map fuE ++ (acs.take y.1).map acE).length ((ds.flatMap daE ++ ts.flatMap trE ++ fs.map fuE ++ (acs.take y.1).map acE).flatMap En.ts)]) (fun y => y.1 ≤ acs.length) (fun y => acs.length - y.1) (0, v3) (Nat.zero_le _) ⟨rfl, rfl, trivial⟩ (by simp) ?_
  rintro ⟨k, v4⟩ hk
  dsimp only at hk ⊢
  have hlk : (ds.flatMap daE ++ ts.flatMap trE ++ fs.map fuE ++ (acs.take k).map acE).length ≤ 4194304 := by
    try simp only [List.length_append, List.length_map, List.length_take]
    omega
  repeat (first | refine gG ?_ | refine zN1 (fun hlen => ?_) | refine zN2 (fun hlen => ?_) | refine zSub ?_ | refine zAl (fun _ => ?_) | refine zBx (fun _ => ?_) | refine zAp (fun _ => ?_))
  refine x_cond rfl (fun h => ?_) (fun h => ?_)
  · have hk' : k < acs.length := by simpa using h
    obtain ⟨a, ha⟩ := nth hk'
    have haz := Ac.size_mem (List.mem_of_getElem? ha)
    clear h
    -- BEGIN body4
    have haz' := haz
    simp only [Ac.size] at haz'
    have hf1 := paired_af a.names a.types (by omega) (by omega)
    have hf2 := typeText_af a.msg (by omega)
    have z2 := fldsS_size a.names a.types
    have z3 := a.msg.text_size
    have hsn : (ds.flatMap daE ++ ts.flatMap trE ++ fs.map fuE ++ (acs.take (k + 1)).map acE).flatMap En.ts = (ds.flatMap daE ++ ts.flatMap trE ++ fs.map fuE ++ (acs.take k).map acE).flatMap En.ts ++ [.lit (.string a.name), .lit (.int .i64 5), .lit (.string ⟨#[]⟩), .lit (.string (⟨#[97, 99, 116, 111, 114, 32]⟩ ++ a.name ++ fldsS a.names a.types ++ ⟨#[58, 32]⟩ ++ a.msg.text))] := by
      rw [enm_snoc acE ha, ← List.append_assoc, fl_app (_ ++ _)]
      rfl
    have hsl : (ds.flatMap daE ++ ts.flatMap trE ++ fs.map fuE ++ (acs.take (k + 1)).map acE).length = (ds.flatMap daE ++ ts.flatMap trE ++ fs.map fuE ++ (acs.take k).map acE).length + 1 := by
      rw [enm_snoc acE ha, ← List.append_assoc, List.length_append (bs := [acE a])]
      rfl
    repeat (first | refine gG ?_ | refine zN1 (fun hlen => ?_) | refine zN2 (fun hlen => ?_) | refine zSub ?_ | refine zAl (fun _ => ?_) | refine zBx (fun _ => ?_) | refine zAp (fun _ => ?_))
    refine zIx (k) (hk') ?_
    repeat (first | refine gG ?_ | refine zN1 (fun hlen => ?_) | refine zN2 (fun hlen => ?_) | refine zSub ?_ | refine zAl (fun _ => ?_) | refine zBx (fun _ => ?_) | refine zAp (fun _ => ?_))
    refine zEl (Ac.at ha) (Ac.ts_len a) ?_
    obtain ⟨na, ns, ys, ma, ⟨kb, nb, tb, nsb, ysb, lb, rsb, pb⟩⟩ := a
    dsimp only at hsn hf1 hf2 z2 z3 haz'
    generalize fldsS ns ys = fx at *
    generalize ma.text = mx at *
    obtain ⟨ka, ta, la⟩ := ma
    repeat (first | refine gG ?_ | refine zN1 (fun hlen => ?_) | refine zN2 (fun hlen => ?_) | refine zSub ?_ | refine zAl (fun _ => ?_) | refine zBx (fun _ => ?_) | refine zAp (fun _ => ?_))
    refine ac_drawB [0, 0, 2, 0, 8, 24, 0, 64, 0, 256, 960, 2040, 4088, 0, 8192, 26560, 65528, 131070, 262142, 524287, 1048575] [1, 1, 1, 1, 1, 1, 1, 1, 1, 1, 1, 1, 1, 1, 1, 1, 1, 1, 1, 2, 1] [0, 1, 2, 3, 4, 5, 6, 7, 8, 9, 10, 11, 12, 13, 14, 15, 16, 17, 18, 19, 20] (by kernel_rfl) (by kernel_rfl) ?_
    refine gW ?_
    apply w_q; (focus exact rfl); (focus exact rfl); focus (intro _; (refine zCat ?_); exact det_refl)
    refine gW ?_
    apply w_q; (focus exact rfl); (focus exact rfl); focus (intro _; (refine lo_call hf1 rfl (by repeat (first | exact rzs_nil | apply rzs_cons | exact rz_c | exact rz_nil rfl | apply rz_agg | exact rz_own rfl | apply rz_fn | exact rz_ptr rfl | apply rz_tup)) ?_; rintro _ rfl); exact det_refl)
    apply w_q; (focus exact rfl); (focus exact rfl); focus (intro _; (refine zCat ?_); exact det_refl)
    apply w_q; (focus exact rfl); (focus exact rfl); focus (intro _; (refine zCat ?_); exact det_refl)
    refine gW ?_
    apply w_q; (focus exact rfl); (focus exact rfl); focus (intro _; (refine lo_call hf2 rfl (by repeat (first | exact rzs_nil | apply rzs_cons | exact rz_c | exact rz_nil rfl | apply rz_agg | exact rz_own rfl | apply rz_fn | exact rz_ptr rfl | apply rz_tup)) ?_; rintro _ rfl); exact det_refl)
    apply w_q; (focus exact rfl); (focus exact rfl); focus (intro _; (refine zCat ?_); exact det_refl)
    refine gW ?_
    apply w_l; (focus exact rfl); (focus exact rfl); (refine zAp (fun _ => ?_))
    refine gW ?_
    refine w_nil ?_
    repeat (first | refine gG ?_ | refine zN1 (fun hlen => ?_) | refine zN2 (fun hlen => ?_) | refine zSub ?_ | refine zAl (fun _ => ?_) | refine zBx (fun _ => ?_) | refine zAp (fun _ => ?_))
    exact ⟨(k + 1, _), hk', by simp only; omega, x_wkd 2 ⟨rfl, rfl, trivial⟩ (by rw [hsn, hsl]; rfl) (by repeat (first | exact ag_refl | refine ag_upd rfl ?_ | refine ag_at rfl rfl ?_))⟩
    -- END body4
  have hk' : k = acs.length := by
    have : ¬ k < acs.length := by simpa using h
    omega
  subst hk'
  rw [List.take_length] at *
  clear hk hlk h
  generalize ds.flatMap daE ++ ts.flatMap trE ++ fs.map fuE ++ acs.map acE = A at *
  refine x_frz hX 3 rfl rfl rfl rfl ?_
  refine x_drop 1 rfl ?_
  repeat (first | refine gG ?_ | refine zN1 (fun hlen => ?_) | refine zN2 (fun hlen => ?_) | refine zSub ?_ | refine zAl (fun _ => ?_) | refine zBx (fun _ => ?_) | refine zAp (fun _ => ?_))
  refine x_own 21 40 4 rfl rfl rfl rfl rfl ?_
  refine x_loop [21, 23, 24, 25, 203, 204, 205, 206, 207, 208, 209, 210, 211, 212, 213, 214, 215, 216, 217, 218, 219, 220, 221, 222, 223, 224, 225, 226, 227, 228, 229, 230, 231, 232, 233, 234, 235, 236, 237, 238, 239, 240, 241, 242, 243, 244, 245, 246, 247, 248, 249, 250, 251, 252, 253, 254, 255, 256, 257, 258, 259, 260] (fun y : Nat × Value => [(203, .c (.lit (.int .i64 y.1))), (21, .own 1 y.2)]) (fun y => [.box b0 29 [.c (.lit (.string nm)), .c (.lit (.int .i64 ve)), .c (Us.row us), .c (Da.row ds), .c (Tr.row ts), .c (Im.row ims), .c (Fu.row fs), .c (Ac.row acs)], .row y.2 40 4 (outE A y.1).length ((outE A y.1).flatMap En.ts)]) (fun y => y.1 ≤ A.length) (fun y => A.length - y.1) (0, .slice none 0 0) (Nat.zero_le _) ⟨rfl, rfl, trivial⟩ rfl ?_
  rintro ⟨j, v5⟩ hj
  dsimp only at hj ⊢
  have hol := outE_len A j
  repeat (first | refine gG ?_ | refine zN1 (fun hlen => ?_) | refine zN2 (fun hlen => ?_) | refine zSub ?_ | refine zAl (fun _ => ?_) | refine zBx (fun _ => ?_) | refine zAp (fun _ => ?_))
  refine x_cond rfl (fun h => ?_) (fun h => ?_)
  · have hj' : j < A.length := by simpa using h
    obtain ⟨e, he⟩ := nth hj'
    have hins := fun i => outE_ins (i := i) he
    clear h
    -- BEGIN ins
    refine x_frz hX 21 rfl rfl rfl rfl ?_
    refine x_drop 1 rfl ?_
    generalize outE A j = o at *
    repeat (first | refine gG ?_ | refine zN1 (fun hlen => ?_) | refine zN2 (fun hlen => ?_) | refine zSub ?_ | refine zAl (fun _ => ?_) | refine zBx (fun _ => ?_) | refine zAp (fun _ => ?_))
    refine zIx j hj' ?_
    repeat (first | refine gG ?_ | refine zN1 (fun hlen => ?_) | refine zN2 (fun hlen => ?_) | refine zSub ?_ | refine zAl (fun _ => ?_) | refine zBx (fun _ => ?_) | refine zAp (fun _ => ?_))
    refine zEl (En.at he) (En.ts_len e) ?_
    obtain ⟨na, so, inn, li⟩ := e
    clear he
    repeat (first | refine gG ?_ | refine zN1 (fun hlen => ?_) | refine zN2 (fun hlen => ?_) | refine zSub ?_ | refine zAl (fun _ => ?_) | refine zBx (fun _ => ?_) | refine zAp (fun _ => ?_))
    rename_i b1
    refine x_loop [24, 209, 210, 211, 212, 213, 214, 215, 216, 217, 218, 219, 220, 221, 222, 223, 224, 225, 226, 227, 228, 229, 230, 231, 232, 233, 234, 235, 236, 237, 238, 239, 240, 241, 242, 243, 244, 245] (fun i : Nat => [(24, .c (.lit (.int .i64 (i : Nat))))]) (fun _ => [.box b0 29 [.c (.lit (.string nm)), .c (.lit (.int .i64 ve)), .c (Us.row us), .c (Da.row ds), .c (Tr.row ts), .c (Im.row ims), .c (Fu.row fs), .c (Ac.row acs)], .box b1 40 [.c (.lit (.string na)), .c (.lit (.int .i64 so)), .c (.lit (.string inn)), .c (.lit (.string li))]]) (fun i => i ≤ o.length ∧ ∀ (m : Nat) (p : En), i ≤ m → o[m]? = some p → enC ⟨na, so, inn, li⟩ p < 0) (fun i => i) o.length ⟨Nat.le_refl _, fun m p hm hp => by have := (List.getElem?_eq_some_iff.1 hp).1; omega⟩ ⟨rfl, trivial⟩ rfl ?_
    rintro i ⟨hi, hgt⟩
    have AFTER : (∀ p, 0 < i → o[i - 1]? = some p → ¬ enC ⟨na, so, inn, li⟩ p < 0) → outE A (j + 1) = o.take i ++ ⟨na, so, inn, li⟩ :: o.drop i := fun h => hins i hi h hgt
    clear hins
    cases i with
    | zero =>
      have hno := AFTER (fun p h => absurd h (by omega))
      have d1 : decide (((0 : Nat) : Int) > 0) = false := rfl
      clear AFTER hgt
      repeat (first | refine gG ?_ | refine zN1 (fun hlen => ?_) | refine zN2 (fun hlen => ?_) | refine zSub ?_ | refine zAl (fun _ => ?_) | refine zBx (fun _ => ?_) | refine zAp (fun _ => ?_))
      refine ac_drawB [0, 1, 3, 7, 7, 23, 63, 127, 255, 7, 519, 2047, 4095, 8191, 8191, 24575, 65535, 131071, 262143, 8191, 532479, 2097151, 4194303, 8388607, 8388607, 25165823, 67108863, 134217727, 268435455, 8388607, 545259519, 2147483647, 4294967295, 8589934591, 17179869183] [1, 1, 1, 1, 1, 1, 1, 1, 1, 1, 1, 1, 1, 1, 1, 1, 1, 1, 1, 1, 1, 1, 1, 1, 1, 1, 1, 1, 1, 1, 1, 1, 1, 1, 1] [0, 1, 2, 3, 4, 5, 6, 7, 8, 9, 10, 11, 12, 13, 14, 15, 16, 17, 18, 19, 20, 21, 22, 23, 24, 25, 26, 27, 28, 29, 30, 31, 32, 33, 34] (by kernel_rfl) (by kernel_rfl) ?_
      refine gW ?_
      refine w_nil ?_
      repeat (first | refine gX ?_ | refine zN1 (fun hlen => ?_) | refine zN2 (fun hlen => ?_) | refine zSub ?_ | refine zAl (fun _ => ?_) | refine zBx (fun _ => ?_) | refine zAp (fun _ => ?_))
      have ht1 : (o.take (0)).length ≤ 1048576 := by rw [List.length_take]; omega
      have ht2 : (o.drop (0)).length ≤ 1048576 := by rw [List.length_drop]; omega
      have hf : (outE A (j + 1)).flatMap En.ts = [] ++ (o.take (0)).flatMap En.ts ++ [.lit (.string na), .lit (.int .i64 so), .lit (.string inn), .lit (.string li)] ++ (o.drop (0)).flatMap En.ts := by
        rw [hno, List.flatMap_append, List.flatMap_cons, List.nil_append, List.append_assoc]
        rfl
      have hfl : (outE A (j + 1)).length = 0 + (o.take (0)).length + 1 + (o.drop (0)).length := by
        rw [hno, List.length_append, List.length_cons]
        omega
      refine zBo (fun w0 => ?_)
      repeat (first | refine gG ?_ | refine zN1 (fun hlen => ?_) | refine zN2 (fun hlen => ?_) | refine zSub ?_ | refine zAl (fun _ => ?_) | refine zBx (fun _ => ?_) | refine zAp (fun _ => ?_))
      refine zPhf (0) hi En.ts_len ?_
      repeat (first | refine gG ?_ | refine zN1 (fun hlen => ?_) | refine zN2 (fun hlen => ?_) | refine zSub ?_ | refine zAl (fun _ => ?_) | refine zBx (fun _ => ?_) | refine zAp (fun _ => ?_))
      refine zPlf (0) hi En.ts_len ?_
      repeat (first | refine gG ?_ | refine zN1 (fun hlen => ?_) | refine zN2 (fun hlen => ?_) | refine zSub ?_ | refine zAl (fun _ => ?_) | refine zBx (fun _ => ?_) | refine zAp (fun _ => ?_))
      rename_i w3
      exact ⟨(j + 1, w3), hj', by simp only; omega, Wk.trans (wk_pick [0, 2] rfl rfl) (Wk.trans (wk_as 21 (.own 1 w3) re_own) (x_wkd 2 ⟨rfl, rfl, trivial⟩ (by rw [hf, hfl]; rfl) (by repeat (first | exact ag_refl | refine ag_upd rfl ?_ | refine ag_at rfl rfl ?_))))⟩
    | succ i =>
      have hi2 : i < o.length := hi
      have hzi : (((i + 1 : Nat) : Int) - 1) = ((i : Nat) : Int) := by omega
      have d1 : decide (((i + 1 : Nat) : Int) > 0) = true := decide_eq_true (by omega)
      obtain ⟨p, hpp⟩ := nth hi2
      have hn := en_nameAt hpp
      have hs := en_sortAt hpp
      have hq : ∀ q, o[i + 1 - 1]? = some q → q = p := fun q h => by
        rw [show i + 1 - 1 = i from rfl, hpp] at h
        exact (Option.some.inj h).symm
      have hmo : enC ⟨na, so, inn, li⟩ p < 0 → ∀ (m : Nat) (q : En), i ≤ m → o[m]? = some q → enC ⟨na, so, inn, li⟩ q < 0 := fun h m q hm h2 => by
        by_cases hmi : m = i
        · rw [hmi, hpp] at h2
          rw [← Option.some.inj h2]
          exact h
        · exact hgt m q (by omega) h2
      cases q1 : strLt na p.name with
      | true =>
        have hlt := hmo (enC_lt.2 (.inl q1))
        have d2 : (!(strLt p.name na || decide (p.name = na))) = true := (gtr_eq _ _).trans q1
        clear AFTER hgt hmo hq hpp q1
        repeat (first | refine gG ?_ | refine zN1 (fun hlen => ?_) | refine zN2 (fun hlen => ?_) | refine zSub ?_ | refine zAl (fun _ => ?_) | refine zBx (fun _ => ?_) | refine zAp (fun _ => ?_))
        refine ac_drawB [0, 1, 3, 7, 7, 23, 63, 127, 255, 7, 519, 2047, 4095, 8191, 8191, 24575, 65535, 131071, 262143, 8191, 532479, 2097151, 4194303, 8388607, 8388607, 25165823, 67108863, 134217727, 268435455, 8388607, 545259519, 2147483647, 4294967295, 8589934591, 17179869183] [1, 1, 1, 1, 1, 1, 1, 1, 1, 1, 1, 1, 1, 1, 1, 1, 1, 1, 1, 1, 1, 1, 1, 1, 1, 1, 1, 1, 1, 1, 1, 1, 1, 1, 1] [0, 1, 2, 3, 4, 5, 6, 7, 8, 9, 10, 11, 12, 13, 14, 15, 16, 17, 18, 19, 20, 21, 22, 23, 24, 25, 26, 27, 28, 29, 30, 31, 32, 33, 34] (by kernel_rfl) (by kernel_rfl) ?_
        refine gW ?_
        try (first | (apply w_un; (focus exact rfl); (focus exact rfl); (focus exact rfl); (focus exact rfl)) | (apply w_no; (focus exact rfl); (focus exact rfl); (focus exact rfl); (focus exact rfl); focus (first | rfl | assumption | exact neg_t (by assumption) | exact neg_f (by assumption))) | (apply w_qg; (focus exact rfl); (focus exact rfl); (focus exact rfl); (focus exact rfl); (focus (first | rfl | assumption | exact neg_t (by assumption) | exact neg_f (by assumption))); (focus (intro _; (refine zSub ?_); exact det_refl))))
        (first | (apply w_un; (focus exact rfl); (focus exact rfl); (focus exact rfl); (focus exact rfl)) | (apply w_no; (focus exact rfl); (focus exact rfl); (focus exact rfl); (focus exact rfl); focus (first | rfl | assumption | exact neg_t (by assumption) | exact neg_f (by assumption))) | (apply w_qg; (focus exact rfl); (focus exact rfl); (focus exact rfl); (focus exact rfl); (focus (first | rfl | assumption | exact neg_t (by assumption) | exact neg_f (by assumption))); (focus (intro _; (refine zIx i hi2 ?_ (hz := hzi)); exact det_refl))))
        try refine gW ?_
        try (first | (apply w_un; (focus exact rfl); (focus exact rfl); (focus exact rfl); (focus exact rfl)) | (apply w_no; (focus exact rfl); (focus exact rfl); (focus exact rfl); (focus exact rfl); focus (first | rfl | assumption | exact neg_t (by assumption) | exact neg_f (by assumption))) | (apply w_qg; (focus exact rfl); (focus exact rfl); (focus exact rfl); (focus exact rfl); (focus (first | rfl | assumption | exact neg_t (by assumption) | exact neg_f (by assumption))); (focus (intro _; (refine zEl1 hn ?_); exact det_refl))))
        try refine gW ?_
        refine w_nil ?_
        repeat (first | refine gG ?_ | refine zN1 (fun hlen => ?_) | refine zN2 (fun hlen => ?_) | refine zSub ?_ | refine zAl (fun _ => ?_) | refine zBx (fun _ => ?_) | refine zAp (fun _ => ?_))
        exact ⟨i, ⟨by omega, hlt⟩, by omega, x_wkd 2 ⟨by rw [← hzi]; rfl, trivial⟩ rfl (by repeat (first | exact ag_refl | refine ag_upd rfl ?_ | refine ag_at rfl rfl ?_))⟩
      | false =>
        have d2 : (!(strLt p.name na || decide (p.name = na))) = false := (gtr_eq _ _).trans q1
        by_cases q2 : p.name = na
        · have d3 : decide (p.name = na) = true := decide_eq_true q2
          by_cases q3 : so < p.sort
          · have hlt := hmo (enC_lt.2 (.inr ⟨q2.symm, q3⟩))
            have d4 : decide (p.sort > so) = true := decide_eq_true q3
            clear AFTER hgt hmo hq hpp q1 q2 q3
            repeat (first | refine gG ?_ | refine zN1 (fun hlen => ?_) | refine zN2 (fun hlen => ?_) | refine zSub ?_ | refine zAl (fun _ => ?_) | refine zBx (fun _ => ?_) | refine zAp (fun _ => ?_))
            refine ac_drawB [0, 1, 3, 7, 7, 23, 63, 127, 255, 7, 519, 2047, 4095, 8191, 8191, 24575, 65535, 131071, 262143, 8191, 532479, 2097151, 4194303, 8388607, 8388607, 25165823, 67108863, 134217727, 268435455, 8388607, 545259519, 2147483647, 4294967295, 8589934591, 17179869183] [1, 1, 1, 1, 1, 1, 1, 1, 1, 1, 1, 1, 1, 1, 1, 1, 1, 1, 1, 1, 1, 1, 1, 1, 1, 1, 1, 1, 1, 1, 1, 1, 1, 1, 1] [0, 1, 2, 3, 4, 5, 6, 7, 8, 9, 10, 11, 12, 13, 14, 15, 16, 17, 18, 19, 20, 21, 22, 23, 24, 25, 26, 27, 28, 29, 30, 31, 32, 33, 34] (by kernel_rfl) (by kernel_rfl) ?_
            refine gW ?_
            try (first | (apply w_un; (focus exact rfl); (focus exact rfl); (focus exact rfl); (focus exact rfl)) | (apply w_no; (focus exact rfl); (focus exact rfl); (focus exact rfl); (focus exact rfl); focus (first | rfl | assumption | exact neg_t (by assumption) | exact neg_f (by assumption))) | (apply w_qg; (focus exact rfl); (focus exact rfl); (focus exact rfl); (focus exact rfl); (focus (first | rfl | assumption | exact neg_t (by assumption) | exact neg_f (by assumption))); (focus (intro _; (refine zSub ?_); exact det_refl))))
            (first | (apply w_un; (focus exact rfl); (focus exact rfl); (focus exact rfl); (focus exact rfl)) | (apply w_no; (focus exact rfl); (focus exact rfl); (focus exact rfl); (focus exact rfl); focus (first | rfl | assumption | exact neg_t (by assumption) | exact neg_f (by assumption))) | (apply w_qg; (focus exact rfl); (focus exact rfl); (focus exact rfl); (focus exact rfl); (focus (first | rfl | assumption | exact neg_t (by assumption) | exact neg_f (by assumption))); (focus (intro _; (refine zIx i hi2 ?_ (hz := hzi)); exact det_refl))))
            try refine gW ?_
            try (first | (apply w_un; (focus exact rfl); (focus exact rfl); (focus exact rfl); (focus exact rfl)) | (apply w_no; (focus exact rfl); (focus exact rfl); (focus exact rfl); (focus exact rfl); focus (first | rfl | assumption | exact neg_t (by assumption) | exact neg_f (by assumption))) | (apply w_qg; (focus exact rfl); (focus exact rfl); (focus exact rfl); (focus exact rfl); (focus (first | rfl | assumption | exact neg_t (by assumption) | exact neg_f (by assumption))); (focus (intro _; (refine zEl1 hn ?_); exact det_refl))))
            try refine gW ?_
            try (first | (apply w_un; (focus exact rfl); (focus exact rfl); (focus exact rfl); (focus exact rfl)) | (apply w_no; (focus exact rfl); (focus exact rfl); (focus exact rfl); (focus exact rfl); focus (first | rfl | assumption | exact neg_t (by assumption) | exact neg_f (by assumption))) | (apply w_qg; (focus exact rfl); (focus exact rfl); (focus exact rfl); (focus exact rfl); (focus (first | rfl | assumption | exact neg_t (by assumption) | exact neg_f (by assumption))); (focus (intro _; (refine zSub ?_); exact det_refl))))
            (first | (apply w_un; (focus exact rfl); (focus exact rfl); (focus exact rfl); (focus exact rfl)) | (apply w_no; (focus exact rfl); (focus exact rfl); (focus exact rfl); (focus exact rfl); focus (first | rfl | assumption | exact neg_t (by assumption) | exact neg_f (by assumption))) | (apply w_qg; (focus exact rfl); (focus exact rfl); (focus exact rfl); (focus exact rfl); (focus (first | rfl | assumption | exact neg_t (by assumption) | exact neg_f (by assumption))); (focus (intro _; (refine zIx i hi2 ?_ (hz := hzi)); exact det_refl))))
            try refine gW ?_
            try (first | (apply w_un; (focus exact rfl); (focus exact rfl); (focus exact rfl); (focus exact rfl)) | (apply w_no; (focus exact rfl); (focus exact rfl); (focus exact rfl); (focus exact rfl); focus (first | rfl | assumption | exact neg_t (by assumption) | exact neg_f (by assumption))) | (apply w_qg; (focus exact rfl); (focus exact rfl); (focus exact rfl); (focus exact rfl); (focus (first | rfl | assumption | exact neg_t (by assumption) | exact neg_f (by assumption))); (focus (intro _; (refine zEl1 hn ?_); exact det_refl))))
            try refine gW ?_
            try (first | (apply w_un; (focus exact rfl); (focus exact rfl); (focus exact rfl); (focus exact rfl)) | (apply w_no; (focus exact rfl); (focus exact rfl); (focus exact rfl); (focus exact rfl); focus (first | rfl | assumption | exact neg_t (by assumption) | exact neg_f (by assumption))) | (apply w_qg; (focus exact rfl); (focus exact rfl); (focus exact rfl); (focus exact rfl); (focus (first | rfl | assumption | exact neg_t (by assumption) | exact neg_f (by assumption))); (focus (intro _; (refine zSub ?_); exact det_refl))))
            (first | (apply w_un; (focus exact rfl); (focus exact rfl); (focus exact rfl); (focus exact rfl)) | (apply w_no; (focus exact rfl); (focus exact rfl); (focus exact rfl); (focus exact rfl); focus (first | rfl | assumption | exact neg_t (by assumption) | exact neg_f (by assumption))) | (apply w_qg; (focus exact rfl); (focus exact rfl); (focus exact rfl); (focus exact rfl); (focus (first | rfl | assumption | exact neg_t (by assumption) | exact neg_f (by assumption))); (focus (intro _; (refine zIx i hi2 ?_ (hz := hzi)); exact det_refl))))
            try refine gW ?_
            try (first | (apply w_un; (focus exact rfl); (focus exact rfl); (focus exact rfl); (focus exact rfl)) | (apply w_no; (focus exact rfl); (focus exact rfl); (focus exact rfl); (focus exact rfl); focus (first | rfl | assumption | exact neg_t (by assumption) | exact neg_f (by assumption))) | (apply w_qg; (focus exact rfl); (focus exact rfl); (focus exact rfl); (focus exact rfl); (focus (first | rfl | assumption | exact neg_t (by assumption) | exact neg_f (by assumption))); (focus (intro _; (refine zEl1 hs ?_); exact det_refl))))
            try refine gW ?_
            refine w_nil ?_
            repeat (first | refine gG ?_ | refine zN1 (fun hlen => ?_) | refine zN2 (fun hlen => ?_) | refine zSub ?_ | refine zAl (fun _ => ?_) | refine zBx (fun _ => ?_) | refine zAp (fun _ => ?_))
            exact ⟨i, ⟨by omega, hlt⟩, by omega, x_wkd 2 ⟨by rw [← hzi]; rfl, trivial⟩ rfl (by repeat (first | exact ag_refl | refine ag_upd rfl ?_ | refine ag_at rfl rfl ?_))⟩
          · have hno := AFTER (fun q _ h => by
              rw [hq q h]
              intro hc
              rcases enC_lt.1 hc with h | ⟨_, h⟩
              · exact Bool.noConfusion (h.symm.trans q1)
              · exact q3 h)
            have d4 : decide (p.sort > so) = false := decide_eq_false q3
            clear AFTER hgt hmo hq hpp q1 q2 q3
            repeat (first | refine gG ?_ | refine zN1 (fun hlen => ?_) | refine zN2 (fun hlen => ?_) | refine zSub ?_ | refine zAl (fun _ => ?_) | refine zBx (fun _ => ?_) | refine zAp (fun _ => ?_))
            refine ac_drawB [0, 1, 3, 7, 7, 23, 63, 127, 255, 7, 519, 2047, 4095, 8191, 8191, 24575, 65535, 131071, 262143, 8191, 532479, 2097151, 4194303, 8388607, 8388607, 25165823, 67108863, 134217727, 268435455, 8388607, 545259519, 2147483647, 4294967295, 8589934591, 17179869183] [1, 1, 1, 1, 1, 1, 1, 1, 1, 1, 1, 1, 1, 1, 1, 1, 1, 1, 1, 1, 1, 1, 1, 1, 1, 1, 1, 1, 1, 1, 1, 1, 1, 1, 1] [0, 1, 2, 3, 4, 5, 6, 7, 8, 9, 10, 11, 12, 13, 14, 15, 16, 17, 18, 19, 20, 21, 22, 23, 24, 25, 26, 27, 28, 29, 30, 31, 32, 33, 34] (by kernel_rfl) (by kernel_rfl) ?_
            refine gW ?_
            try (first | (apply w_un; (focus exact rfl); (focus exact rfl); (focus exact rfl); (focus exact rfl)) | (apply w_no; (focus exact rfl); (focus exact rfl); (focus exact rfl); (focus exact rfl); focus (first | rfl | assumption | exact neg_t (by assumption) | exact neg_f (by assumption))) | (apply w_qg; (focus exact rfl); (focus exact rfl); (focus exact rfl); (focus exact rfl); (focus (first | rfl | assumption | exact neg_t (by assumption) | exact neg_f (by assumption))); (focus (intro _; (refine zSub ?_); exact det_refl))))
            (first | (apply w_un; (focus exact rfl); (focus exact rfl); (focus exact rfl); (focus exact rfl)) | (apply w_no; (focus exact rfl); (focus exact rfl); (focus exact rfl); (focus exact rfl); focus (first | rfl | assumption | exact neg_t (by assumption) | exact neg_f (by assumption))) | (apply w_qg; (focus exact rfl); (focus exact rfl); (focus exact rfl); (focus exact rfl); (focus (first | rfl | assumption | exact neg_t (by assumption) | exact neg_f (by assumption))); (focus (intro _; (refine zIx i hi2 ?_ (hz := hzi)); exact det_refl))))
            try refine gW ?_
            try (first | (apply w_un; (focus exact rfl); (focus exact rfl); (focus exact rfl); (focus exact rfl)) | (apply w_no; (focus exact rfl); (focus exact rfl); (focus exact rfl); (focus exact rfl); focus (first | rfl | assumption | exact neg_t (by assumption) | exact neg_f (by assumption))) | (apply w_qg; (focus exact rfl); (focus exact rfl); (focus exact rfl); (focus exact rfl); (focus (first | rfl | assumption | exact neg_t (by assumption) | exact neg_f (by assumption))); (focus (intro _; (refine zEl1 hn ?_); exact det_refl))))
            try refine gW ?_
            try (first | (apply w_un; (focus exact rfl); (focus exact rfl); (focus exact rfl); (focus exact rfl)) | (apply w_no; (focus exact rfl); (focus exact rfl); (focus exact rfl); (focus exact rfl); focus (first | rfl | assumption | exact neg_t (by assumption) | exact neg_f (by assumption))) | (apply w_qg; (focus exact rfl); (focus exact rfl); (focus exact rfl); (focus exact rfl); (focus (first | rfl | assumption | exact neg_t (by assumption) | exact neg_f (by assumption))); (focus (intro _; (refine zSub ?_); exact det_refl))))
            (first | (apply w_un; (focus exact rfl); (focus exact rfl); (focus exact rfl); (focus exact rfl)) | (apply w_no; (focus exact rfl); (focus exact rfl); (focus exact rfl); (focus exact rfl); focus (first | rfl | assumption | exact neg_t (by assumption) | exact neg_f (by assumption))) | (apply w_qg; (focus exact rfl); (focus exact rfl); (focus exact rfl); (focus exact rfl); (focus (first | rfl | assumption | exact neg_t (by assumption) | exact neg_f (by assumption))); (focus (intro _; (refine zIx i hi2 ?_ (hz := hzi)); exact det_refl))))
            try refine gW ?_
            try (first | (apply w_un; (focus exact rfl); (focus exact rfl); (focus exact rfl); (focus exact rfl)) | (apply w_no; (focus exact rfl); (focus exact rfl); (focus exact rfl); (focus exact rfl); focus (first | rfl | assumption | exact neg_t (by assumption) | exact neg_f (by assumption))) | (apply w_qg; (focus exact rfl); (focus exact rfl); (focus exact rfl); (focus exact rfl); (focus (first | rfl | assumption | exact neg_t (by assumption) | exact neg_f (by assumption))); (focus (intro _; (refine zEl1 hn ?_); exact det_refl))))
            try refine gW ?_
            try (first | (apply w_un; (focus exact rfl); (focus exact rfl); (focus exact rfl); (focus exact rfl)) | (apply w_no; (focus exact rfl); (focus exact rfl); (focus exact rfl); (focus exact rfl); focus (first | rfl | assumption | exact neg_t (by assumption) | exact neg_f (by assumption))) | (apply w_qg; (focus exact rfl); (focus exact rfl); (focus exact rfl); (focus exact rfl); (focus (first | rfl | assumption | exact neg_t (by assumption) | exact neg_f (by assumption))); (focus (intro _; (refine zSub ?_); exact det_refl))))
            (first | (apply w_un; (focus exact rfl); (focus exact rfl); (focus exact rfl); (focus exact rfl)) | (apply w_no; (focus exact rfl); (focus exact rfl); (focus exact rfl); (focus exact rfl); focus (first | rfl | assumption | exact neg_t (by assumption) | exact neg_f (by assumption))) | (apply w_qg; (focus exact rfl); (focus exact rfl); (focus exact rfl); (focus exact rfl); (focus (first | rfl | assumption | exact neg_t (by assumption) | exact neg_f (by assumption))); (focus (intro _; (refine zIx i hi2 ?_ (hz := hzi)); exact det_refl))))
            try refine gW ?_
            try (first | (apply w_un; (focus exact rfl); (focus exact rfl); (focus exact rfl); (focus exact rfl)) | (apply w_no; (focus exact rfl); (focus exact rfl); (focus exact rfl); (focus exact rfl); focus (first | rfl | assumption | exact neg_t (by assumption) | exact neg_f (by assumption))) | (apply w_qg; (focus exact rfl); (focus exact rfl); (focus exact rfl); (focus exact rfl); (focus (first | rfl | assumption | exact neg_t (by assumption) | exact neg_f (by assumption))); (focus (intro _; (refine zEl1 hs ?_); exact det_refl))))
            try refine gW ?_
            refine w_nil ?_
            repeat (first | refine gX ?_ | refine zN1 (fun hlen => ?_) | refine zN2 (fun hlen => ?_) | refine zSub ?_ | refine zAl (fun _ => ?_) | refine zBx (fun _ => ?_) | refine zAp (fun _ => ?_))
            have ht1 : (o.take (i + 1)).length ≤ 1048576 := by rw [List.length_take]; omega
            have ht2 : (o.drop (i + 1)).length ≤ 1048576 := by rw [List.length_drop]; omega
            have hf : (outE A (j + 1)).flatMap En.ts = [] ++ (o.take (i + 1)).flatMap En.ts ++ [.lit (.string na), .lit (.int .i64 so), .lit (.string inn), .lit (.string li)] ++ (o.drop (i + 1)).flatMap En.ts := by
              rw [hno, List.flatMap_append, List.flatMap_cons, List.nil_append, List.append_assoc]
              rfl
            have hfl : (outE A (j + 1)).length = 0 + (o.take (i + 1)).length + 1 + (o.drop (i + 1)).length := by
              rw [hno, List.length_append, List.length_cons]
              omega
            refine zBo (fun w0 => ?_)
            repeat (first | refine gG ?_ | refine zN1 (fun hlen => ?_) | refine zN2 (fun hlen => ?_) | refine zSub ?_ | refine zAl (fun _ => ?_) | refine zBx (fun _ => ?_) | refine zAp (fun _ => ?_))
            refine zPhf (i + 1) hi En.ts_len ?_
            repeat (first | refine gG ?_ | refine zN1 (fun hlen => ?_) | refine zN2 (fun hlen => ?_) | refine zSub ?_ | refine zAl (fun _ => ?_) | refine zBx (fun _ => ?_) | refine zAp (fun _ => ?_))
            refine zPlf (i + 1) hi En.ts_len ?_
            repeat (first | refine gG ?_ | refine zN1 (fun hlen => ?_) | refine zN2 (fun hlen => ?_) | refine zSub ?_ | refine zAl (fun _ => ?_) | refine zBx (fun _ => ?_) | refine zAp (fun _ => ?_))
            rename_i w3
            exact ⟨(j + 1, w3), hj', by simp only; omega, Wk.trans (wk_pick [0, 2] rfl rfl) (Wk.trans (wk_as 21 (.own 1 w3) re_own) (x_wkd 2 ⟨rfl, rfl, trivial⟩ (by rw [hf, hfl]; rfl) (by repeat (first | exact ag_refl | refine ag_upd rfl ?_ | refine ag_at rfl rfl ?_))))⟩
        · have d3 : decide (p.name = na) = false := decide_eq_false q2
          have hno := AFTER (fun q _ h => by
            rw [hq q h]
            intro hc
            rcases enC_lt.1 hc with h | ⟨h, _⟩
            · exact Bool.noConfusion (h.symm.trans q1)
            · exact q2 h.symm)
          clear AFTER hgt hmo hq hpp q1 q2
          repeat (first | refine gG ?_ | refine zN1 (fun hlen => ?_) | refine zN2 (fun hlen => ?_) | refine zSub ?_ | refine zAl (fun _ => ?_) | refine zBx (fun _ => ?_) | refine zAp (fun _ => ?_))
          refine ac_drawB [0, 1, 3, 7, 7, 23, 63, 127, 255, 7, 519, 2047, 4095, 8191, 8191, 24575, 65535, 131071, 262143, 8191, 532479, 2097151, 4194303, 8388607, 8388607, 25165823, 67108863, 134217727, 268435455, 8388607, 545259519, 2147483647, 4294967295, 8589934591, 17179869183] [1, 1, 1, 1, 1, 1, 1, 1, 1, 1, 1, 1, 1, 1, 1, 1, 1, 1, 1, 1, 1, 1, 1, 1, 1, 1, 1, 1, 1, 1, 1, 1, 1, 1, 1] [0, 1, 2, 3, 4, 5, 6, 7, 8, 9, 10, 11, 12, 13, 14, 15, 16, 17, 18, 19, 20, 21, 22, 23, 24, 25, 26, 27, 28, 29, 30, 31, 32, 33, 34] (by kernel_rfl) (by kernel_rfl) ?_
          refine gW ?_
          try (first | (apply w_un; (focus exact rfl); (focus exact rfl); (focus exact rfl); (focus exact rfl)) | (apply w_no; (focus exact rfl); (focus exact rfl); (focus exact rfl); (focus exact rfl); focus (first | rfl | assumption | exact neg_t (by assumption) | exact neg_f (by assumption))) | (apply w_qg; (focus exact rfl); (focus exact rfl); (focus exact rfl); (focus exact rfl); (focus (first | rfl | assumption | exact neg_t (by assumption) | exact neg_f (by assumption))); (focus (intro _; (refine zSub ?_); exact det_refl))))
          (first | (apply w_un; (focus exact rfl); (focus exact rfl); (focus exact rfl); (focus exact rfl)) | (apply w_no; (focus exact rfl); (focus exact rfl); (focus exact rfl); (focus exact rfl); focus (first | rfl | assumption | exact neg_t (by assumption) | exact neg_f (by assumption))) | (apply w_qg; (focus exact rfl); (focus exact rfl); (focus exact rfl); (focus exact rfl); (focus (first | rfl | assumption | exact neg_t (by assumption) | exact neg_f (by assumption))); (focus (intro _; (refine zIx i hi2 ?_ (hz := hzi)); exact det_refl))))
          try refine gW ?_
          try (first | (apply w_un; (focus exact rfl); (focus exact rfl); (focus exact rfl); (focus exact rfl)) | (apply w_no; (focus exact rfl); (focus exact rfl); (focus exact rfl); (focus exact rfl); focus (first | rfl | assumption | exact neg_t (by assumption) | exact neg_f (by assumption))) | (apply w_qg; (focus exact rfl); (focus exact rfl); (focus exact rfl); (focus exact rfl); (focus (first | rfl | assumption | exact neg_t (by assumption) | exact neg_f (by assumption))); (focus (intro _; (refine zEl1 hn ?_); exact det_refl))))
          try refine gW ?_
          try (first | (apply w_un; (focus exact rfl); (focus exact rfl); (focus exact rfl); (focus exact rfl)) | (apply w_no; (focus exact rfl); (focus exact rfl); (focus exact rfl); (focus exact rfl); focus (first | rfl | assumption | exact neg_t (by assumption) | exact neg_f (by assumption))) | (apply w_qg; (focus exact rfl); (focus exact rfl); (focus exact rfl); (focus exact rfl); (focus (first | rfl | assumption | exact neg_t (by assumption) | exact neg_f (by assumption))); (focus (intro _; (refine zSub ?_); exact det_refl))))
          (first | (apply w_un; (focus exact rfl); (focus exact rfl); (focus exact rfl); (focus exact rfl)) | (apply w_no; (focus exact rfl); (focus exact rfl); (focus exact rfl); (focus exact rfl); focus (first | rfl | assumption | exact neg_t (by assumption) | exact neg_f (by assumption))) | (apply w_qg; (focus exact rfl); (focus exact rfl); (focus exact rfl); (focus exact rfl); (focus (first | rfl | assumption | exact neg_t (by assumption) | exact neg_f (by assumption))); (focus (intro _; (refine zIx i hi2 ?_ (hz := hzi)); exact det_refl))))
          try refine gW ?_
          try (first | (apply w_un; (focus exact rfl); (focus exact rfl); (focus exact rfl); (focus exact rfl)) | (apply w_no; (focus exact rfl); (focus exact rfl); (focus exact rfl); (focus exact rfl); focus (first | rfl | assumption | exact neg_t (by assumption) | exact neg_f (by assumption))) | (apply w_qg; (focus exact rfl); (focus exact rfl); (focus exact rfl); (focus exact rfl); (focus (first | rfl | assumption | exact neg_t (by assumption) | exact neg_f (by assumption))); (focus (intro _; (refine zEl1 hn ?_); exact det_refl))))
          try refine gW ?_
          refine w_nil ?_
          repeat (first | refine gX ?_ | refine zN1 (fun hlen => ?_) | refine zN2 (fun hlen => ?_) | refine zSub ?_ | refine zAl (fun _ => ?_) | refine zBx (fun _ => ?_) | refine zAp (fun _ => ?_))
          have ht1 : (o.take (i + 1)).length ≤ 1048576 := by rw [List.length_take]; omega
          have ht2 : (o.drop (i + 1)).length ≤ 1048576 := by rw [List.length_drop]; omega
          have hf : (outE A (j + 1)).flatMap En.ts = [] ++ (o.take (i + 1)).flatMap En.ts ++ [.lit (.string na), .lit (.int .i64 so), .lit (.string inn), .lit (.string li)] ++ (o.drop (i + 1)).flatMap En.ts := by
            rw [hno, List.flatMap_append, List.flatMap_cons, List.nil_append, List.append_assoc]
            rfl
          have hfl : (outE A (j + 1)).length = 0 + (o.take (i + 1)).length + 1 + (o.drop (i + 1)).length := by
            rw [hno, List.length_append, List.length_cons]
            omega
          refine zBo (fun w0 => ?_)
          repeat (first | refine gG ?_ | refine zN1 (fun hlen => ?_) | refine zN2 (fun hlen => ?_) | refine zSub ?_ | refine zAl (fun _ => ?_) | refine zBx (fun _ => ?_) | refine zAp (fun _ => ?_))
          refine zPhf (i + 1) hi En.ts_len ?_
          repeat (first | refine gG ?_ | refine zN1 (fun hlen => ?_) | refine zN2 (fun hlen => ?_) | refine zSub ?_ | refine zAl (fun _ => ?_) | refine zBx (fun _ => ?_) | refine zAp (fun _ => ?_))
          refine zPlf (i + 1) hi En.ts_len ?_
          repeat (first | refine gG ?_ | refine zN1 (fun hlen => ?_) | refine zN2 (fun hlen => ?_) | refine zSub ?_ | refine zAl (fun _ => ?_) | refine zBx (fun _ => ?_) | refine zAp (fun _ => ?_))
          rename_i w3
          exact ⟨(j + 1, w3), hj', by simp only; omega, Wk.trans (wk_pick [0, 2] rfl rfl) (Wk.trans (wk_as 21 (.own 1 w3) re_own) (x_wkd 2 ⟨rfl, rfl, trivial⟩ (by rw [hf, hfl]; rfl) (by repeat (first | exact ag_refl | refine ag_upd rfl ?_ | refine ag_at rfl rfl ?_))))⟩
    -- END ins
  have hj' : j = A.length := by
    have : ¬ j < A.length := by simpa using h
    omega
  subst hj'
  rw [outE_all]
  clear hj h
  generalize stabL enC A = O at *
  repeat (first | refine gG ?_ | refine zN1 (fun hlen => ?_) | refine zN2 (fun hlen => ?_) | refine zSub ?_ | refine zAl (fun _ => ?_) | refine zBx (fun _ => ?_) | refine zAp (fun _ => ?_))
  first | refine zR ?_ | refine zQ ?_
  rfl
end Go.Proofs.YtbfomgchjlkopaaDoor
