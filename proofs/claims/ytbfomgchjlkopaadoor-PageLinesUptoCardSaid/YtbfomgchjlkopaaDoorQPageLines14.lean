/-
  Texts of this proof, part 14: Pek Tes Tps.
-/
import Derived.Test.YtbfomgchjlkopaaDoorQPageLines13
import Derived.Laws.IdiomRangeMap
import Derived.MapKept
namespace Go.Proofs.YtbfomgchjlkopaaDoor
open Go.RowKit
set_option maxRecDepth 100000 in
set_option maxHeartbeats 8000000 in
theorem pageLines_af (p : Pr) (hp : p.size ≤ 1048576) (hv : inI p.version) (hu : ∀ u ∈ p.uses, u.ok) : AF Tryd.prog 14 [p.t] (· = strRow (pageL p)) := by
  have he := pageEntries_af p hp
  have hel : (entS p).length ≤ 1048576 := by rw [entS_len]; exact Nat.le_trans (entr_len p) hp
  have hi := itoa_af p.version hv
  have his := itS_size hv
  unfold pageL hdL
  obtain ⟨nm, ve, us, ds, ts, ims, fs, acs⟩ := p
  have h0 : nm.size + Us.sizes us + Da.sizes ds + Tr.sizes ts + Im.sizes ims + Fu.sizes fs + Ac.sizes acs + 1 ≤ 1048576 := hp
  dsimp only at hi his hu ⊢
  have lu := Us.len_sizes us
  have li := Im.len_sizes ims
  have his' : (bs (Lib.itoa ve)).size ≤ 20 := his
  rw [show itS ve = bs (Lib.itoa ve) from rfl]
  generalize entS ⟨nm, ve, us, ds, ts, ims, fs, acs⟩ = E at *
  have hE : En.row E = .row E.length 4 (E.flatMap En.ts) := rfl
  rw [hE] at he
  have hst : ∀ v, _ := fun v => sortStrP_ag (ims.map imL) (by rw [List.length_map]; omega) v 9
  have hso := sortedP_af (ims.map imL) (by rw [List.length_map]; omega)
  have hsl := sortB_len (ims.map imL)
  rw [List.length_map] at hsl
  have hpa := pkA_len E
  have hmu : ∀ a : Us, usL a = ⟨#[117, 115, 101, 115, 32]⟩ ++ a.name ++ ⟨#[32]⟩ ++ bs (Lib.itoa a.low) ++ ⟨#[32, 116, 111, 32]⟩ ++ bs (Lib.itoa a.high) := fun _ => rfl
  have hmi : ∀ a : Im, imL a = ⟨#[105, 109, 112, 108, 32]⟩ ++ a.trait ++ ⟨#[32, 102, 111, 114, 32]⟩ ++ a.dat := fun _ => rfl
  generalize usL = uf at *
  generalize imL = mf at *
  clear hp
  refine af_enter tok Tryd.func14 Tryd.ntmps14 Tryd.results14 rfl (by kernel_rfl) rfl rfl fun F hX => ?_
  repeat (first | refine gG ?_ | refine zN1 (fun hlen => ?_) | refine zN2 (fun hlen => ?_) | refine zAl (fun _ => ?_) | refine zBx (fun _ => ?_) | refine zAp (fun _ => ?_))
  rename_i b0
  refine ac_draw [1, 1, 1, 1, 1, 1, 1, 1, 2, 1] [0, 1, 2, 3, 4, 5, 6, 7, 8, 9] (by kernel_rfl) (by kernel_rfl) ?_
  refine gW ?_
  apply w_q; (focus exact rfl); (focus exact rfl); focus (intro _; (refine zCat ?_); exact det_refl)
  apply w_q; (focus exact rfl); (focus exact rfl); focus (intro _; (refine zCat ?_); exact det_refl)
  refine gW ?_
  apply w_q; (focus exact rfl); (focus exact rfl); focus (intro _; (refine lo_call hi rfl (by repeat (first | exact rzs_nil | apply rzs_cons | exact rz_c | exact rz_nil rfl | apply rz_agg | exact rz_own rfl | apply rz_fn | exact rz_ptr rfl | apply rz_tup)) ?_; rintro _ rfl); exact det_refl)
  apply w_q; (focus exact rfl); (focus exact rfl); focus (intro _; (refine zCat ?_); exact det_refl)
  apply w_l; (focus exact rfl); (focus exact rfl); (refine zBo (fun v0 => ?_))
  refine gW ?_
  refine w_nil ?_
  repeat (first | refine gG ?_ | refine zN1 (fun hlen => ?_) | refine zN2 (fun hlen => ?_) | refine zAl (fun _ => ?_) | refine zBx (fun _ => ?_) | refine zAp (fun _ => ?_))
  generalize ⟨#[109, 111, 100, 117, 108, 101, 32]⟩ ++ nm ++ ⟨#[32]⟩ ++ bs (Lib.itoa ve) = hd at *
  clear hi his his'
  refine x_loop [3, 5, 25, 26, 27, 28, 29, 30, 31, 32, 33, 34, 35, 36, 37, 38, 39, 40, 41, 42, 43, 44, 45] (fun y : Nat × Value => [(25, .c (.lit (.int .i64 y.1))), (3, .own 1 y.2)]) (fun y => [.box b0 29 [.c (.lit (.string nm)), .c (.lit (.int .i64 ve)), .c (Us.row us), .c (Da.row ds), .c (Tr.row ts), .c (Im.row ims), .c (Fu.row fs), .c (Ac.row acs)], .row y.2 9 1 (hd :: (us.take y.1).map uf).length ((hd :: (us.take y.1).map uf).flatMap strTs)]) (fun y => y.1 ≤ us.length) (fun y => us.length - y.1) (0, v0) (Nat.zero_le _) ⟨rfl, rfl, trivial⟩ rfl ?_
  rintro ⟨k, v1⟩ hk
  dsimp only at hk ⊢
  have hlk : (hd :: (us.take k).map uf).length ≤ 2097152 := by
    rw [List.length_cons, List.length_map, List.length_take]
    omega
  repeat (first | refine gG ?_ | refine zN1 (fun hlen => ?_) | refine zN2 (fun hlen => ?_) | refine zAl (fun _ => ?_) | refine zBx (fun _ => ?_) | refine zAp (fun _ => ?_))
  refine x_cond rfl (fun h => ?_) (fun h => ?_)
  · have hk' : k < us.length := by simpa using h
    obtain ⟨a, ha⟩ := nth hk'
    have haz := Us.size_mem (List.mem_of_getElem? ha)
    have hua := hu a (List.mem_of_getElem? ha)
    have ha1 := itoa_af a.low hua.1
    have ha2 := itoa_af a.high hua.2
    have hs1 : (bs (Lib.itoa a.low)).size ≤ 20 := itS_size hua.1
    have hs2 : (bs (Lib.itoa a.high)).size ≤ 20 := itS_size hua.2
    have hsn : (hd :: (us.take (k + 1)).map uf).flatMap strTs = (hd :: (us.take k).map uf).flatMap strTs ++ [.lit (.string (⟨#[117, 115, 101, 115, 32]⟩ ++ a.name ++ ⟨#[32]⟩ ++ bs (Lib.itoa a.low) ++ ⟨#[32, 116, 111, 32]⟩ ++ bs (Lib.itoa a.high)))] := by
      rw [mp_snoc uf ha, hmu a]
      exact strs_snoc (hd :: (us.take k).map uf) _
    have hsl2 : (hd :: (us.take (k + 1)).map uf).length = (hd :: (us.take k).map uf).length + 1 := by
      rw [mp_snoc uf ha]
      simp only [List.length_cons, List.length_append, List.length_nil]
    clear h
    repeat (first | refine gG ?_ | refine zN1 (fun hlen => ?_) | refine zN2 (fun hlen => ?_) | refine zAl (fun _ => ?_) | refine zBx (fun _ => ?_) | refine zAp (fun _ => ?_))
    refine zIx (k) (hk') ?_
    repeat (first | refine gG ?_ | refine zN1 (fun hlen => ?_) | refine zN2 (fun hlen => ?_) | refine zAl (fun _ => ?_) | refine zBx (fun _ => ?_) | refine zAp (fun _ => ?_))
    refine zEl (Us.at ha) (Us.ts_len a) ?_
    obtain ⟨na, lo, hg⟩ := a
    have hz0 : na.size + 1 ≤ 1048576 := by have : na.size + 1 ≤ Us.size ⟨na, lo, hg⟩ := by (simp only [Us.size]; omega)
                                           omega
    dsimp only at hsn ha1 ha2 hs1 hs2
    clear haz hua ha hmu hmi
    generalize bs (Lib.itoa lo) = s1 at *
    generalize bs (Lib.itoa hg) = s2 at *
    repeat (first | refine gG ?_ | refine zN1 (fun hlen => ?_) | refine zN2 (fun hlen => ?_) | refine zAl (fun _ => ?_) | refine zBx (fun _ => ?_) | refine zAp (fun _ => ?_))
    refine ac_draw [1, 1, 1, 1, 1, 1, 1, 1, 1, 1, 1, 1, 1, 1, 1, 2, 1] [0, 1, 2, 3, 4, 5, 6, 7, 8, 9, 10, 11, 12, 13, 14, 15, 16] (by kernel_rfl) (by kernel_rfl) ?_
    refine gW ?_
    apply w_q; (focus exact rfl); (focus exact rfl); focus (intro _; (refine zCat ?_); exact det_refl)
    apply w_q; (focus exact rfl); (focus exact rfl); focus (intro _; (refine zCat ?_); exact det_refl)
    refine gW ?_
    apply w_q; (focus exact rfl); (focus exact rfl); focus (intro _; (refine lo_call ha1 rfl (by repeat (first | exact rzs_nil | apply rzs_cons | exact rz_c | exact rz_nil rfl | apply rz_agg | exact rz_own rfl | apply rz_fn | exact rz_ptr rfl | apply rz_tup)) ?_; rintro _ rfl); exact det_refl)
    apply w_q; (focus exact rfl); (focus exact rfl); focus (intro _; (refine zCat ?_); exact det_refl)
    apply w_q; (focus exact rfl); (focus exact rfl); focus (intro _; (refine zCat ?_); exact det_refl)
    refine gW ?_
    apply w_q; (focus exact rfl); (focus exact rfl); focus (intro _; (refine lo_call ha2 rfl (by repeat (first | exact rzs_nil | apply rzs_cons | exact rz_c | exact rz_nil rfl | apply rz_agg | exact rz_own rfl | apply rz_fn | exact rz_ptr rfl | apply rz_tup)) ?_; rintro _ rfl); exact det_refl)
    apply w_q; (focus exact rfl); (focus exact rfl); focus (intro _; (refine zCat ?_); exact det_refl)
    refine gW ?_
    apply w_l; (focus exact rfl); (focus exact rfl); (refine zAp (fun _ => ?_))
    refine gW ?_
    refine w_nil ?_
    repeat (first | refine gG ?_ | refine zN1 (fun hlen => ?_) | refine zN2 (fun hlen => ?_) | refine zAl (fun _ => ?_) | refine zBx (fun _ => ?_) | refine zAp (fun _ => ?_))
    exact ⟨(k + 1, _), hk', by simp only; omega, x_wkd 2 ⟨rfl, rfl, trivial⟩ (by rw [hsn, hsl2]; rfl) (by repeat (first | exact ag_refl | refine ag_upd rfl ?_ | refine ag_at rfl rfl ?_))⟩
  have hk' : k = us.length := by
    have : ¬ k < us.length := by simpa using h
    omega
  subst hk'
  rw [List.take_length] at *
  clear hk h hmu
  repeat (first | refine gG ?_ | refine zN1 (fun hlen => ?_) | refine zN2 (fun hlen => ?_) | refine zAl (fun _ => ?_) | refine zBx (fun _ => ?_) | refine zAp (fun _ => ?_))
  refine x_loop [3, 7, 9, 48, 49, 50, 51, 52, 53, 54, 55, 56, 57, 58, 59, 60, 61, 62, 63, 64, 65, 66, 67, 68, 69, 70, 71, 72, 73, 74] (fun y : Nat × Value => [(48, .c (.lit (.int .i64 y.1))), (3, .own 1 y.2)]) (fun y => [.box b0 29 [.c (.lit (.string nm)), .c (.lit (.int .i64 ve)), .c (Us.row us), .c (Da.row ds), .c (Tr.row ts), .c (Im.row ims), .c (Fu.row fs), .c (Ac.row acs)], .row y.2 9 1 ((hd :: us.map uf) ++ pkA E y.1).length (((hd :: us.map uf) ++ pkA E y.1).flatMap strTs)]) (fun y => y.1 ≤ 4) (fun y => 4 - y.1) (0, v1) (Nat.zero_le _) ⟨rfl, rfl, trivial⟩ (by rw [show pkA E 0 = [] from rfl, List.append_nil]) ?_
  rintro ⟨k, v2⟩ hk
  dsimp only at hk ⊢
  repeat (first | refine gG ?_ | refine zN1 (fun hlen => ?_) | refine zN2 (fun hlen => ?_) | refine zAl (fun _ => ?_) | refine zBx (fun _ => ?_) | refine zAp (fun _ => ?_))
  refine x_cond rfl (fun h => ?_) (fun h => ?_)
  · have hk' : k < 4 := by
      have h5 : ((k : Nat) : Int) < 4 := by simpa using h
      omega
    obtain ⟨s, hs⟩ := nth (show k < srt.length from hk')
    have hat : ([.lit (.int .i64 1), .lit (.int .i64 3), .lit (.int .i64 4), .lit (.int .i64 5)] : List T)[k * 1]? = some (.lit (.int .i64 s)) := by
      rw [Nat.mul_one, show ([.lit (.int .i64 1), .lit (.int .i64 3), .lit (.int .i64 4), .lit (.int .i64 5)] : List T) = srt.map (fun s => T.lit (.int .i64 s)) from rfl, List.getElem?_map, hs]
      rfl
    have hsk : (hd :: us.map uf) ++ pkA E (k + 1) = (hd :: us.map uf) ++ pkA E k ++ pk E s := by rw [pkA_snoc E hs, List.append_assoc]
    have hpk := hpa k
    clear h hs
    repeat (first | refine gG ?_ | refine zN1 (fun hlen => ?_) | refine zN2 (fun hlen => ?_) | refine zAl (fun _ => ?_) | refine zBx (fun _ => ?_) | refine zAp (fun _ => ?_))
    refine zIx k hk' ?_
    repeat (first | refine gG ?_ | refine zN1 (fun hlen => ?_) | refine zN2 (fun hlen => ?_) | refine zAl (fun _ => ?_) | refine zBx (fun _ => ?_) | refine zAp (fun _ => ?_))
    refine zEl1 hat ?_
    repeat (first | refine gG ?_ | refine zN1 (fun hlen => ?_) | refine zN2 (fun hlen => ?_) | refine zAl (fun _ => ?_) | refine zBx (fun _ => ?_) | refine zAp (fun _ => ?_))
    refine zCall (he) ?_
    rintro _ rfl
    repeat (first | refine gG ?_ | refine zN1 (fun hlen => ?_) | refine zN2 (fun hlen => ?_) | refine zAl (fun _ => ?_) | refine zBx (fun _ => ?_) | refine zAp (fun _ => ?_))
    refine x_loop [3, 9, 55, 56, 57, 58, 59, 60, 61, 62, 63, 64, 65, 66, 67, 68, 69, 70, 71, 72, 73] (fun y : Nat × Value => [(55, .c (.lit (.int .i64 y.1))), (3, .own 1 y.2)]) (fun y => [.box b0 29 [.c (.lit (.string nm)), .c (.lit (.int .i64 ve)), .c (Us.row us), .c (Da.row ds), .c (Tr.row ts), .c (Im.row ims), .c (Fu.row fs), .c (Ac.row acs)], .row y.2 9 1 ((hd :: us.map uf) ++ pkA E k ++ pk (E.take y.1) s).length (((hd :: us.map uf) ++ pkA E k ++ pk (E.take y.1) s).flatMap strTs)]) (fun y => y.1 ≤ E.length) (fun y => E.length - y.1) (0, v2) (Nat.zero_le _) ⟨rfl, rfl, trivial⟩ (by rw [List.take_zero, show pk [] s = [] from rfl, List.append_nil]) ?_
    rintro ⟨j, v3⟩ hj
    dsimp only at hj ⊢
    have hlk : ((hd :: us.map uf) ++ pkA E k ++ pk (E.take j) s).length ≤ 8388608 := by
      have := pk_len (E.take j) s
      rw [List.length_take] at this
      simp only [List.length_append, List.length_cons, List.length_map]
      omega
    repeat (first | refine gG ?_ | refine zN1 (fun hlen => ?_) | refine zN2 (fun hlen => ?_) | refine zAl (fun _ => ?_) | refine zBx (fun _ => ?_) | refine zAp (fun _ => ?_))
    refine x_cond rfl (fun h => ?_) (fun h => ?_)
    · have hj' : j < E.length := by simpa using h
      obtain ⟨e, hje⟩ := nth hj'
      clear h
      by_cases q : e.inn = ⟨#[]⟩ ∧ e.sort = s
      · obtain ⟨q1, q2⟩ := q
        have hsn : ((hd :: us.map uf) ++ pkA E k ++ pk (E.take (j + 1)) s).flatMap strTs = ((hd :: us.map uf) ++ pkA E k ++ pk (E.take j) s).flatMap strTs ++ [.lit (.string e.line)] := by
          rw [pk_yes hje q1 q2, ← List.append_assoc]
          exact strs_snoc _ _
        have hsl2 : ((hd :: us.map uf) ++ pkA E k ++ pk (E.take (j + 1)) s).length = ((hd :: us.map uf) ++ pkA E k ++ pk (E.take j) s).length + 1 := by
          rw [pk_yes hje q1 q2, ← List.append_assoc]
          exact List.length_append
        have d1 : decide (e.inn = (⟨#[]⟩ : ByteArray)) = true := decide_eq_true q1
        have d2 : decide (e.sort = s) = true := decide_eq_true q2
        repeat (first | refine gG ?_ | refine zN1 (fun hlen => ?_) | refine zN2 (fun hlen => ?_) | refine zAl (fun _ => ?_) | refine zBx (fun _ => ?_) | refine zAp (fun _ => ?_))
        refine zIx (j) (hj') ?_
        repeat (first | refine gG ?_ | refine zN1 (fun hlen => ?_) | refine zN2 (fun hlen => ?_) | refine zAl (fun _ => ?_) | refine zBx (fun _ => ?_) | refine zAp (fun _ => ?_))
        refine zEl (En.at hje) (En.ts_len e) ?_
        obtain ⟨na, so, inn, li⟩ := e
        dsimp only at hsn d1 d2 q1 q2
        clear q1 q2 hje
        repeat (first | refine gG ?_ | refine zN1 (fun hlen => ?_) | refine zN2 (fun hlen => ?_) | refine zAl (fun _ => ?_) | refine zBx (fun _ => ?_) | refine zAp (fun _ => ?_))
        exact ⟨(j + 1, _), hj', by simp only; omega, x_wkd 2 ⟨rfl, rfl, trivial⟩ (by rw [hsn, hsl2]; rfl) (by repeat (first | exact ag_refl | refine ag_upd rfl ?_ | refine ag_at rfl rfl ?_))⟩
      · have hsn := pk_no hje q
        by_cases q1 : e.sort = s
        · have d1 : decide (e.sort = s) = true := decide_eq_true q1
          have d2 : decide (e.inn = (⟨#[]⟩ : ByteArray)) = false := decide_eq_false (fun h => q ⟨h, q1⟩)
          repeat (first | refine gG ?_ | refine zN1 (fun hlen => ?_) | refine zN2 (fun hlen => ?_) | refine zAl (fun _ => ?_) | refine zBx (fun _ => ?_) | refine zAp (fun _ => ?_))
          refine zIx (j) (hj') ?_
          repeat (first | refine gG ?_ | refine zN1 (fun hlen => ?_) | refine zN2 (fun hlen => ?_) | refine zAl (fun _ => ?_) | refine zBx (fun _ => ?_) | refine zAp (fun _ => ?_))
          refine zEl (En.at hje) (En.ts_len e) ?_
          obtain ⟨na, so, inn, li⟩ := e
          dsimp only at *
          clear q1 q hje
          repeat (first | refine gG ?_ | refine zN1 (fun hlen => ?_) | refine zN2 (fun hlen => ?_) | refine zAl (fun _ => ?_) | refine zBx (fun _ => ?_) | refine zAp (fun _ => ?_))
          exact ⟨(j + 1, _), hj', by simp only; omega, x_wkd 2 ⟨rfl, rfl, trivial⟩ (by rw [hsn]; rfl) (by repeat (first | exact ag_refl | refine ag_upd rfl ?_ | refine ag_at rfl rfl ?_))⟩
        · have d1 : decide (e.sort = s) = false := decide_eq_false q1
          repeat (first | refine gG ?_ | refine zN1 (fun hlen => ?_) | refine zN2 (fun hlen => ?_) | refine zAl (fun _ => ?_) | refine zBx (fun _ => ?_) | refine zAp (fun _ => ?_))
          refine zIx (j) (hj') ?_
          repeat (first | refine gG ?_ | refine zN1 (fun hlen => ?_) | refine zN2 (fun hlen => ?_) | refine zAl (fun _ => ?_) | refine zBx (fun _ => ?_) | refine zAp (fun _ => ?_))
          refine zEl (En.at hje) (En.ts_len e) ?_
          obtain ⟨na, so, inn, li⟩ := e
          dsimp only at *
          clear q1 q hje
          repeat (first | refine gG ?_ | refine zN1 (fun hlen => ?_) | refine zN2 (fun hlen => ?_) | refine zAl (fun _ => ?_) | refine zBx (fun _ => ?_) | refine zAp (fun _ => ?_))
          exact ⟨(j + 1, _), hj', by simp only; omega, x_wkd 2 ⟨rfl, rfl, trivial⟩ (by rw [hsn]; rfl) (by repeat (first | exact ag_refl | refine ag_upd rfl ?_ | refine ag_at rfl rfl ?_))⟩
    have hj' : j = E.length := by
      have : ¬ j < E.length := by simpa using h
      omega
    subst hj'
    rw [List.take_length] at *
    clear hj hlk h
    repeat (first | refine gG ?_ | refine zN1 (fun hlen => ?_) | refine zN2 (fun hlen => ?_) | refine zAl (fun _ => ?_) | refine zBx (fun _ => ?_) | refine zAp (fun _ => ?_))
    exact ⟨(k + 1, _), hk', by simp only; omega, x_wkd 2 ⟨rfl, rfl, trivial⟩ (by rw [hsk]; rfl) (by repeat (first | exact ag_refl | refine ag_upd rfl ?_ | refine ag_at rfl rfl ?_))⟩
  have hk' : k = 4 := by
    have h5 : ¬ ((k : Nat) : Int) < 4 := by simpa using h
    omega
  subst hk'
  have hpk := hpa 4
  have hlz : ((hd :: us.map uf) ++ pkA E 4).length ≤ 8388608 := by
    simp only [List.length_append, List.length_cons, List.length_map]
    omega
  clear hk h
  generalize (hd :: us.map uf) ++ pkA E 4 = Z at *
  repeat (first | refine gG ?_ | refine zN1 (fun hlen => ?_) | refine zN2 (fun hlen => ?_) | refine zAl (fun _ => ?_) | refine zBx (fun _ => ?_) | refine zAp (fun _ => ?_))
  refine x_own 10 9 1 rfl rfl rfl rfl rfl ?_
  refine x_loop [10, 12, 78, 79, 80, 81, 82, 83, 84, 85, 86, 87, 88, 89, 90, 91, 92] (fun y : Nat × Value => [(78, .c (.lit (.int .i64 y.1))), (10, .own 2 y.2)]) (fun y => [.box b0 29 [.c (.lit (.string nm)), .c (.lit (.int .i64 ve)), .c (Us.row us), .c (Da.row ds), .c (Tr.row ts), .c (Im.row ims), .c (Fu.row fs), .c (Ac.row acs)], .row v2 9 1 Z.length (Z.flatMap strTs), .row y.2 9 1 ((ims.take y.1).map mf).length (((ims.take y.1).map mf).flatMap strTs)]) (fun y => y.1 ≤ ims.length) (fun y => ims.length - y.1) (0, .slice none 0 0) (Nat.zero_le _) ⟨rfl, rfl, trivial⟩ rfl ?_
  rintro ⟨k, v4⟩ hk
  dsimp only at hk ⊢
  have hlk : ((ims.take k).map mf).length ≤ 2097152 := by
    rw [List.length_map, List.length_take]
    omega
  repeat (first | refine gG ?_ | refine zN1 (fun hlen => ?_) | refine zN2 (fun hlen => ?_) | refine zAl (fun _ => ?_) | refine zBx (fun _ => ?_) | refine zAp (fun _ => ?_))
  refine x_cond rfl (fun h => ?_) (fun h => ?_)
  · have hk' : k < ims.length := by simpa using h
    obtain ⟨a, ha⟩ := nth hk'
    have haz := Im.size_mem (List.mem_of_getElem? ha)
    have hsn : ((ims.take (k + 1)).map mf).flatMap strTs = ((ims.take k).map mf).flatMap strTs ++ [.lit (.string (⟨#[105, 109, 112, 108, 32]⟩ ++ a.trait ++ ⟨#[32, 102, 111, 114, 32]⟩ ++ a.dat))] := by
      rw [mp_snoc mf ha, hmi a]
      exact strs_snoc _ _
    have hsl2 : ((ims.take (k + 1)).map mf).length = ((ims.take k).map mf).length + 1 := by
      rw [mp_snoc mf ha]
      exact List.length_append
    clear h
    repeat (first | refine gG ?_ | refine zN1 (fun hlen => ?_) | refine zN2 (fun hlen => ?_) | refine zAl (fun _ => ?_) | refine zBx (fun _ => ?_) | refine zAp (fun _ => ?_))
    refine zIx (k) (hk') ?_
    repeat (first | refine gG ?_ | refine zN1 (fun hlen => ?_) | refine zN2 (fun hlen => ?_) | refine zAl (fun _ => ?_) | refine zBx (fun _ => ?_) | refine zAp (fun _ => ?_))
    refine zEl (Im.at ha) (Im.ts_len a) ?_
    obtain ⟨na, da, fu⟩ := a
    have hz0 : na.size + da.size + 1 ≤ 1048576 := by have : na.size + da.size + 1 ≤ Im.size ⟨na, da, fu⟩ := by (simp only [Im.size]; omega)
                                                     omega
    dsimp only at hsn
    clear haz ha hmi
    repeat (first | refine gG ?_ | refine zN1 (fun hlen => ?_) | refine zN2 (fun hlen => ?_) | refine zAl (fun _ => ?_) | refine zBx (fun _ => ?_) | refine zAp (fun _ => ?_))
    refine zCat ?_
    repeat (first | refine gG ?_ | refine zN1 (fun hlen => ?_) | refine zN2 (fun hlen => ?_) | refine zAl (fun _ => ?_) | refine zBx (fun _ => ?_) | refine zAp (fun _ => ?_))
    refine zCat ?_
    repeat (first | refine gG ?_ | refine zN1 (fun hlen => ?_) | refine zN2 (fun hlen => ?_) | refine zAl (fun _ => ?_) | refine zBx (fun _ => ?_) | refine zAp (fun _ => ?_))
    refine zCat ?_
    repeat (first | refine gG ?_ | refine zN1 (fun hlen => ?_) | refine zN2 (fun hlen => ?_) | refine zAl (fun _ => ?_) | refine zBx (fun _ => ?_) | refine zAp (fun _ => ?_))
    exact ⟨(k + 1, _), hk', by simp only; omega, x_wkd 3 ⟨rfl, rfl, trivial⟩ (by rw [hsn, hsl2]; rfl) (by repeat (first | exact ag_refl | refine ag_upd rfl ?_ | refine ag_at rfl rfl ?_))⟩
  have hk' : k = ims.length := by
    have : ¬ k < ims.length := by simpa using h
    omega
  subst hk'
  rw [List.take_length] at *
  clear hk h hlk
  refine x_frz hX 10 rfl rfl rfl rfl ?_
  repeat (first | refine gG ?_ | refine zN1 (fun hlen => ?_) | refine zN2 (fun hlen => ?_) | refine zAl (fun _ => ?_) | refine zBx (fun _ => ?_) | refine zAp (fun _ => ?_))
  refine zCall (hso) ?_
  rintro _ rfl
  generalize sortB (ims.map mf) = L at *
  repeat (first | refine gG ?_ | refine zN1 (fun hlen => ?_) | refine zN2 (fun hlen => ?_) | refine zAl (fun _ => ?_) | refine zBx (fun _ => ?_) | refine zAp (fun _ => ?_))
  first | refine zR ?_ | refine zQ ?_
  rw [strRow, List.length_append, List.flatMap_append]
  rfl
end Go.Proofs.YtbfomgchjlkopaaDoor
namespace Go.Proofs.YtbfomgchjlkopaaDoor
open Go.RowKit
def Ar.pat : Ar → V
  | .mk p _ => p
def Ar.body : Ar → Ex
  | .mk _ b => b
def Ex.arms : Ex → List Ar
  | .mk _ _ _ _ _ _ rs _ => rs
def Ex.args : Ex → List Ex
  | .mk _ _ _ _ _ l _ _ => l
def Ex.types : Ex → List Y
  | .mk _ _ _ _ ys _ _ _ => ys
def Ex.nexts (e : Ex) : List Ex := e.args ++ e.arms.map Ar.body
def Ex.pats (e : Ex) : List V := e.arms.map Ar.pat
theorem Ex.sizes_app (l r : List Ex) : Ex.sizes (l ++ r) = Ex.sizes l + Ex.sizes r := by
  induction l with
  | nil => simp [Ex.sizes]
  | cons v l ih => simp only [List.cons_append, Ex.sizes, ih]; omega
theorem Ar.sizes_parts : ∀ l : List Ar, Ex.sizes (l.map Ar.body) + V.sizes (l.map Ar.pat) = Ar.sizes l
  | [] => rfl
  | .mk p b :: l => by
    have := Ar.sizes_parts l
    simp only [List.map_cons, Ex.sizes, V.sizes, Ar.sizes, Ar.size, Ar.body, Ar.pat]
    omega
theorem Ex.sizes_flat : ∀ l : List Ex, Ex.sizes (l.flatMap Ex.nexts) + V.sizes (l.flatMap Ex.pats) + l.length ≤ Ex.sizes l
  | [] => by simp [Ex.sizes, V.sizes]
  | .mk k n t ns ys a rs p :: l => by
    have h1 := Ex.sizes_flat l
    have h2 := Ar.sizes_parts rs
    simp only [List.flatMap_cons, Ex.nexts, Ex.pats, Ex.args, Ex.arms, Ex.sizes_app, V.sizes_app, Ex.sizes, Ex.size, List.length_cons]
    omega
theorem Ex.take_sizes (l : List Ex) (k : Nat) : Ex.sizes (l.take k) ≤ Ex.sizes l := by
  have := Ex.sizes_app (l.take k) (l.drop k)
  rw [List.take_append_drop] at this
  omega
theorem map_snoc' {α β : Type} (f : α → β) {l : List α} {k : Nat} {a : α} (h : l[k]? = some a) : (l.take (k + 1)).map f = (l.take k).map f ++ [f a] := by
  obtain ⟨h1, rfl⟩ := List.getElem?_eq_some_iff.1 h
  rw [List.take_succ_eq_append_getElem h1, List.map_append]
  simp
set_option maxRecDepth 100000 in
set_option maxHeartbeats 4000000 in
theorem exprSmall_af (e : Ex) (hv : e.size ≤ 1048576) : AF Tryd.prog 19 [e.t] Tell := by
  obtain ⟨k0, n0, t0, ns0, ys0, l0, rs0, p0⟩ := e
  refine af_enter tok Tryd.func19 Tryd.ntmps19 Tryd.results19 rfl (by kernel_rfl) rfl rfl fun F hX => ?_
  repeat (first | refine gG ?_ | refine zN1 (fun hlen => ?_) | refine zN2 (fun hlen => ?_) | refine zAl (fun _ => ?_) | refine zBx (fun _ => ?_) | refine zAp (fun _ => ?_))
  refine x_drop 0 rfl ?_
  refine x_loop [2, 3, 4, 5, 6, 7, 9, 11, 12, 13, 15, 18, 19, 20, 21, 22, 23, 24, 25, 26, 27, 28, 29, 30, 31, 32, 33, 34, 35, 36, 37, 38, 39, 40, 41, 42, 43, 44, 45, 46, 47, 48, 49, 50, 51, 52, 53, 54, 55, 56, 57, 58, 59, 60, 61, 62, 63, 64, 65, 66, 67, 68, 69, 70, 71, 72, 73, 74, 75, 76, 77, 78, 79, 80, 81, 82, 83, 84, 85, 86, 87, 88, 89, 90, 91, 92, 93] (fun y : List Ex × Nat × Nat => [(3, .c (Ex.row y.1)), (4, .c (.lit (.int .i64 (y.2.1 : Nat)))), (5, .c (.lit (.int .i64 (y.2.2 : Nat))))]) (fun _ => [])
    (fun y => Ex.sizes y.1 ≤ 1048576 ∧ y.2.1 ≤ 3000 ∧ y.2.2 ≤ 101) (fun y => 102 - y.2.2) ([.mk k0 n0 t0 ns0 ys0 l0 rs0 p0], 0, 0) ⟨by simpa [Ex.sizes] using hv, by simp, by simp⟩ ⟨rfl, rfl, rfl, trivial⟩ rfl ?_
  rintro ⟨l, n, dp⟩ ⟨hl, hn, hdp⟩
  dsimp only at hl hn hdp ⊢
  have hll := Ex.len_sizes l
  repeat (first | refine gG ?_ | refine zN1 (fun hlen => ?_) | refine zN2 (fun hlen => ?_) | refine zAl (fun _ => ?_) | refine zBx (fun _ => ?_) | refine zAp (fun _ => ?_))
  refine x_cond rfl (fun h => ?_) (fun h => ?_)
  · repeat (first | refine gG ?_ | refine zN1 (fun hlen => ?_) | refine zN2 (fun hlen => ?_) | refine zAl (fun _ => ?_) | refine zBx (fun _ => ?_) | refine zAp (fun _ => ?_))
    refine lo_add rfl rfl (r := ((n + l.length : Nat) : Int)) (by rw [IntWalk.i64_in _ (by omega)]; omega) ?_
    cases d1 : decide ((100 : Int) < (dp : Int))
    · cases d2 : decide ((3000 : Int) < ((n + l.length : Nat) : Int))
      · have hd1 : ¬ (100 : Int) < (dp : Int) := of_decide_eq_false d1
        have hd2 : ¬ (3000 : Int) < ((n + l.length : Nat) : Int) := of_decide_eq_false d2
        repeat (first | refine gG ?_ | refine zN1 (fun hlen => ?_) | refine zN2 (fun hlen => ?_) | refine zAl (fun _ => ?_) | refine zBx (fun _ => ?_) | refine zAp (fun _ => ?_))
        refine x_own 6 68 8 rfl rfl rfl rfl rfl ?_
        refine x_own 7 92 4 rfl rfl rfl rfl rfl ?_
        refine x_loop [2, 6, 7, 9, 11, 35, 36, 37, 38, 39, 40, 41, 42, 43, 44, 45, 46, 47, 48, 49, 50, 51, 52, 53, 54, 55, 56, 57, 58, 59, 60, 61, 62, 63, 64, 65] (fun y : Nat × Value × Value => [(35, .c (.lit (.int .i64 (y.1 : Nat)))), (6, .own 0 y.2.1), (7, .own 1 y.2.2)])
          (fun y => [.row y.2.1 68 8 ((l.take y.1).flatMap Ex.nexts).length (Ex.all ((l.take y.1).flatMap Ex.nexts)), .row y.2.2 92 4 ((l.take y.1).flatMap Ex.pats).length (V.all ((l.take y.1).flatMap Ex.pats))])
          (fun y => y.1 ≤ l.length) (fun y => l.length - y.1) (0, .slice none 0 0, .slice none 0 0) (Nat.zero_le _) ⟨rfl, rfl, rfl, trivial⟩ rfl ?_
        rintro ⟨k, v, u⟩ hk
        dsimp only at hk ⊢
        repeat (first | refine gG ?_ | refine zN1 (fun hlen => ?_) | refine zN2 (fun hlen => ?_) | refine zAl (fun _ => ?_) | refine zBx (fun _ => ?_) | refine zAp (fun _ => ?_))
        refine x_cond rfl (fun h => ?_) (fun h => ?_)
        · have hk' : k < l.length := by simpa using h
          obtain ⟨a, ha⟩ := nth hk'
          have hsn := flat_snoc' Ex.nexts ha
          have hsp := flat_snoc' Ex.pats ha
          have hsz : ((l.take k).flatMap Ex.nexts).length + a.args.length + a.arms.length ≤ 1048576 ∧ ((l.take k).flatMap Ex.pats).length + a.arms.length ≤ 1048576 := by
            have h1 := Ex.len_sizes ((l.take (k + 1)).flatMap Ex.nexts)
            have h2 := Ex.sizes_flat (l.take (k + 1))
            have h3 := Ex.take_sizes l (k + 1)
            have h4 := V.len_sizes ((l.take (k + 1)).flatMap Ex.pats)
            rw [hsn] at h1 h2
            rw [hsp] at h2 h4
            simp only [List.length_append, Ex.nexts, Ex.pats, List.length_map] at h1 h4
            simp only [Ex.nexts, Ex.pats] at h2
            omega
          have has : Y.sizes a.types ≤ 1048576 := by
            have h1 := Ex.size_mem (List.mem_of_getElem? ha)
            obtain ⟨ka, na, ta, nsa, ysa, la, rsa, pa⟩ := a
            simp only [Ex.size] at h1
            simp only [Ex.types]
            omega
          have hts := typesSmall_af a.types has
          repeat (first | refine gG ?_ | refine zN1 (fun hlen => ?_) | refine zN2 (fun hlen => ?_) | refine zAl (fun _ => ?_) | refine zBx (fun _ => ?_) | refine zAp (fun _ => ?_))
          refine zIx (k) (hk') ?_
          repeat (first | refine gG ?_ | refine zN1 (fun hlen => ?_) | refine zN2 (fun hlen => ?_) | refine zAl (fun _ => ?_) | refine zBx (fun _ => ?_) | refine zAp (fun _ => ?_))
          refine zEl (Ex.at ha) (Ex.ts_len a) ?_
          obtain ⟨ka, na, ta, nsa, ysa, la, rsa, pa⟩ := a
          simp only [Ex.args, Ex.arms, Ex.types, Ex.nexts, Ex.pats] at hsz hsn hsp hts
          repeat (first | refine gG ?_ | refine zN1 (fun hlen => ?_) | refine zN2 (fun hlen => ?_) | refine zAl (fun _ => ?_) | refine zBx (fun _ => ?_) | refine zAp (fun _ => ?_))
          refine zCall (hts) ?_
          rintro _ ⟨b, rfl⟩
          cases b
          · repeat (first | refine gG ?_ | refine zN1 (fun hlen => ?_) | refine zN2 (fun hlen => ?_) | refine zAl (fun _ => ?_) | refine zBx (fun _ => ?_) | refine zAp (fun _ => ?_))
            first | refine zR ?_ | refine zQ ?_
            exact ⟨_, rfl⟩
          · repeat (first | refine gG ?_ | refine zN1 (fun hlen => ?_) | refine zN2 (fun hlen => ?_) | refine zAl (fun _ => ?_) | refine zBx (fun _ => ?_) | refine zAp (fun _ => ?_))
            refine x_drop 2 rfl ?_
            refine x_loop [6, 7, 11, 50, 51, 52, 53, 54, 55, 56, 57, 58, 59, 60, 61, 62, 63, 64] (fun y : Nat × Value × Value => [(50, .c (.lit (.int .i64 (y.1 : Nat)))), (6, .own 0 y.2.1), (7, .own 1 y.2.2)])
              (fun y => [.row y.2.1 68 8 (((l.take k).flatMap Ex.nexts).length + la.length + y.1) (Ex.all ((l.take k).flatMap Ex.nexts) ++ Ex.all la ++ Ex.all ((rsa.take y.1).map Ar.body)), .row y.2.2 92 4 (((l.take k).flatMap Ex.pats).length + y.1) (V.all ((l.take k).flatMap Ex.pats) ++ V.all ((rsa.take y.1).map Ar.pat))])
              (fun y => y.1 ≤ rsa.length) (fun y => rsa.length - y.1) (0, _, _) (Nat.zero_le _) ⟨rfl, rfl, rfl, trivial⟩ (by simp [Ex.all, V.all]) ?_
            rintro ⟨j, v', u'⟩ hj
            dsimp only at hj ⊢
            repeat (first | refine gG ?_ | refine zN1 (fun hlen => ?_) | refine zN2 (fun hlen => ?_) | refine zAl (fun _ => ?_) | refine zBx (fun _ => ?_) | refine zAp (fun _ => ?_))
            refine x_cond rfl (fun h => ?_) (fun h => ?_)
            · have hj' : j < rsa.length := by simpa using h
              obtain ⟨r, hr⟩ := nth hj'
              have hb1 := map_snoc' Ar.body hr
              have hb2 := map_snoc' Ar.pat hr
              repeat (first | refine gG ?_ | refine zN1 (fun hlen => ?_) | refine zN2 (fun hlen => ?_) | refine zAl (fun _ => ?_) | refine zBx (fun _ => ?_) | refine zAp (fun _ => ?_))
              refine zIx (j) (hj') ?_
              repeat (first | refine gG ?_ | refine zN1 (fun hlen => ?_) | refine zN2 (fun hlen => ?_) | refine zAl (fun _ => ?_) | refine zBx (fun _ => ?_) | refine zAp (fun _ => ?_))
              refine zEl (Ar.at hr) (Ar.ts_len r) ?_
              obtain ⟨⟨kp, np, tp, lp⟩, ⟨kb, nb, tb, nsb, ysb, lb, rsb, pb⟩⟩ := r
              repeat (first | refine gG ?_ | refine zN1 (fun hlen => ?_) | refine zN2 (fun hlen => ?_) | refine zAl (fun _ => ?_) | refine zBx (fun _ => ?_) | refine zAp (fun _ => ?_))
              exact ⟨(j + 1, _, _), hj', by simp only; omega, x_wkd 2 ⟨rfl, rfl, rfl, trivial⟩ (by simp only [hb1, hb2, Ex.all_app, V.all_app', List.append_assoc, Nat.add_assoc]; rfl) (by repeat (first | exact ag_refl | refine ag_upd rfl ?_ | refine ag_at rfl rfl ?_))⟩
            · have hj' : j = rsa.length := by have : ¬ j < rsa.length := by simpa using h
                                              omega
              subst hj'
              repeat (first | refine gG ?_ | refine zN1 (fun hlen => ?_) | refine zN2 (fun hlen => ?_) | refine zAl (fun _ => ?_) | refine zBx (fun _ => ?_) | refine zAp (fun _ => ?_))
              exact ⟨(k + 1, _, _), hk', by simp only; omega, x_wkd 2 ⟨rfl, rfl, rfl, trivial⟩ (by simp only [hsn, hsp, Ex.all_app, V.all_app', List.length_append, List.length_map, List.take_length, List.append_assoc, Nat.add_assoc]; rfl) (by repeat (first | exact ag_refl | refine ag_upd rfl ?_ | refine ag_at rfl rfl ?_))⟩
        · have hk' : k = l.length := by have : ¬ k < l.length := by simpa using h
                                        omega
          subst hk'
          rw [List.take_length]
          have hfl := Ex.sizes_flat l
          repeat (first | refine gG ?_ | refine zN1 (fun hlen => ?_) | refine zN2 (fun hlen => ?_) | refine zAl (fun _ => ?_) | refine zBx (fun _ => ?_) | refine zAp (fun _ => ?_))
          refine x_frz hX 7 rfl rfl rfl rfl ?_
          refine x_drop 1 rfl ?_
          refine x_loop [2, 4, 7, 12, 13, 15, 66, 67, 68, 69, 70, 71, 72, 73, 74, 75, 76, 77, 78, 79, 80, 81, 82, 83, 84, 85, 86, 87, 88, 89, 90, 91, 92] (fun y : List V × Nat × Nat => [(7, .c (V.row y.1)), (4, .c (.lit (.int .i64 (y.2.1 : Nat)))), (12, .c (.lit (.int .i64 (y.2.2 : Nat))))]) (fun _ => [.row v 68 8 (l.flatMap Ex.nexts).length (Ex.all (l.flatMap Ex.nexts))])
            (fun y => V.sizes y.1 ≤ 1048576 ∧ y.2.1 ≤ 3000 ∧ y.2.2 ≤ 101) (fun y => 102 - y.2.2) (l.flatMap Ex.pats, n + l.length, 0) ⟨by simp only; omega, by simp only; omega, by simp⟩ ⟨rfl, rfl, rfl, trivial⟩ rfl ?_
          rintro ⟨ps, m, dq⟩ ⟨hps, hm, hdq⟩
          dsimp only at hps hm hdq ⊢
          have hpl := V.len_sizes ps
          repeat (first | refine gG ?_ | refine zN1 (fun hlen => ?_) | refine zN2 (fun hlen => ?_) | refine zAl (fun _ => ?_) | refine zBx (fun _ => ?_) | refine zAp (fun _ => ?_))
          refine x_cond rfl (fun h => ?_) (fun h => ?_)
          · repeat (first | refine gG ?_ | refine zN1 (fun hlen => ?_) | refine zN2 (fun hlen => ?_) | refine zAl (fun _ => ?_) | refine zBx (fun _ => ?_) | refine zAp (fun _ => ?_))
            refine lo_add rfl rfl (r := ((m + ps.length : Nat) : Int)) (by rw [IntWalk.i64_in _ (by omega)]; omega) ?_
            cases d3 : decide ((100 : Int) < (dq : Int))
            · cases d4 : decide ((3000 : Int) < ((m + ps.length : Nat) : Int))
              · have hd3 : ¬ (100 : Int) < (dq : Int) := of_decide_eq_false d3
                have hd4 : ¬ (3000 : Int) < ((m + ps.length : Nat) : Int) := of_decide_eq_false d4
                repeat (first | refine gG ?_ | refine zN1 (fun hlen => ?_) | refine zN2 (fun hlen => ?_) | refine zAl (fun _ => ?_) | refine zBx (fun _ => ?_) | refine zAp (fun _ => ?_))
                refine x_own 13 92 4 rfl rfl rfl rfl rfl ?_
                refine x_loop [13, 15, 83, 84, 85, 86, 87, 88, 89, 90, 91] (fun y : Nat × Value => [(83, .c (.lit (.int .i64 (y.1 : Nat)))), (13, .own 1 y.2)]) (fun y => [.row v 68 8 (l.flatMap Ex.nexts).length (Ex.all (l.flatMap Ex.nexts)), .row y.2 92 4 ((ps.take y.1).flatMap V.args).length (V.all ((ps.take y.1).flatMap V.args))])
                  (fun y => y.1 ≤ ps.length) (fun y => ps.length - y.1) (0, .slice none 0 0) (Nat.zero_le _) ⟨rfl, rfl, trivial⟩ rfl ?_
                rintro ⟨i, v'⟩ hi
                dsimp only at hi ⊢
                repeat (first | refine gG ?_ | refine zN1 (fun hlen => ?_) | refine zN2 (fun hlen => ?_) | refine zAl (fun _ => ?_) | refine zBx (fun _ => ?_) | refine zAp (fun _ => ?_))
                refine x_cond rfl (fun h => ?_) (fun h => ?_)
                · have hi' : i < ps.length := by simpa using h
                  obtain ⟨a, ha⟩ := nth hi'
                  have hsn := flat_snoc' V.args ha
                  have hsz : ((ps.take i).flatMap V.args).length + a.args.length ≤ 1048576 := by
                    have h1 := V.len_sizes ((ps.take (i + 1)).flatMap V.args)
                    have h2 := V.sizes_flat (ps.take (i + 1))
                    have h3 := V.take_sizes ps (i + 1)
                    rw [hsn] at h1 h2
                    rw [List.length_append] at h1
                    omega
                  repeat (first | refine gG ?_ | refine zN1 (fun hlen => ?_) | refine zN2 (fun hlen => ?_) | refine zAl (fun _ => ?_) | refine zBx (fun _ => ?_) | refine zAp (fun _ => ?_))
                  refine zIx (i) (hi') ?_
                  repeat (first | refine gG ?_ | refine zN1 (fun hlen => ?_) | refine zN2 (fun hlen => ?_) | refine zAl (fun _ => ?_) | refine zBx (fun _ => ?_) | refine zAp (fun _ => ?_))
                  refine zEl (V.at ha) (V.ts_len a) ?_
                  obtain ⟨ka, na, ta, la⟩ := a
                  simp only [V.args] at hsz hsn
                  repeat (first | refine gG ?_ | refine zN1 (fun hlen => ?_) | refine zN2 (fun hlen => ?_) | refine zAl (fun _ => ?_) | refine zBx (fun _ => ?_) | refine zAp (fun _ => ?_))
                  exact ⟨(i + 1, _), hi', by simp only; omega, x_wkd 2 ⟨rfl, rfl, trivial⟩ (by simp only [hsn, V.all_app', List.length_append]; rfl) (by repeat (first | exact ag_refl | refine ag_upd rfl ?_ | refine ag_at rfl rfl ?_))⟩
                · have hi' : i = ps.length := by have : ¬ i < ps.length := by simpa using h
                                                 omega
                  subst hi'
                  repeat (first | refine gG ?_ | refine zN1 (fun hlen => ?_) | refine zN2 (fun hlen => ?_) | refine zAl (fun _ => ?_) | refine zBx (fun _ => ?_) | refine zAp (fun _ => ?_))
                  refine ⟨(ps.flatMap V.args, m + ps.length, dq + 1), ⟨?_, by simp only; omega, by simp only; omega⟩, by simp only; omega, (wk_frz hX 7 rfl rfl rfl rfl).trans (x_wkd 1 ⟨?_, rfl, rfl, trivial⟩ rfl (by repeat (first | exact ag_refl | refine ag_upd rfl ?_ | refine ag_at rfl rfl ?_)))⟩
                  · have := V.sizes_flat ps; simp only; omega
                  · simp only [List.take_length]; rfl
              · repeat (first | refine gG ?_ | refine zN1 (fun hlen => ?_) | refine zN2 (fun hlen => ?_) | refine zAl (fun _ => ?_) | refine zBx (fun _ => ?_) | refine zAp (fun _ => ?_))
                first | refine zR ?_ | refine zQ ?_
                exact ⟨_, rfl⟩
            · repeat (first | refine gG ?_ | refine zN1 (fun hlen => ?_) | refine zN2 (fun hlen => ?_) | refine zAl (fun _ => ?_) | refine zBx (fun _ => ?_) | refine zAp (fun _ => ?_))
              first | refine zR ?_ | refine zQ ?_
              exact ⟨_, rfl⟩
          · repeat (first | refine gG ?_ | refine zN1 (fun hlen => ?_) | refine zN2 (fun hlen => ?_) | refine zAl (fun _ => ?_) | refine zBx (fun _ => ?_) | refine zAp (fun _ => ?_))
            refine ⟨(l.flatMap Ex.nexts, m, dp + 1), ⟨by simp only; omega, hm, by simp only; omega⟩, by simp only; omega, (wk_frz hX 3 rfl rfl rfl rfl).trans (x_wkd 0 ⟨rfl, rfl, rfl, trivial⟩ rfl (by repeat (first | exact ag_refl | refine ag_upd rfl ?_ | refine ag_at rfl rfl ?_)))⟩
      · repeat (first | refine gG ?_ | refine zN1 (fun hlen => ?_) | refine zN2 (fun hlen => ?_) | refine zAl (fun _ => ?_) | refine zBx (fun _ => ?_) | refine zAp (fun _ => ?_))
        first | refine zR ?_ | refine zQ ?_
        exact ⟨_, rfl⟩
    · repeat (first | refine gG ?_ | refine zN1 (fun hlen => ?_) | refine zN2 (fun hlen => ?_) | refine zAl (fun _ => ?_) | refine zBx (fun _ => ?_) | refine zAp (fun _ => ?_))
      first | refine zR ?_ | refine zQ ?_
      exact ⟨_, rfl⟩
  · repeat (first | refine gG ?_ | refine zN1 (fun hlen => ?_) | refine zN2 (fun hlen => ?_) | refine zAl (fun _ => ?_) | refine zBx (fun _ => ?_) | refine zAp (fun _ => ?_))
    first | refine zR ?_ | refine zQ ?_
    exact ⟨_, rfl⟩
end Go.Proofs.YtbfomgchjlkopaaDoor
namespace Go.Proofs.YtbfomgchjlkopaaDoor
open Go.RowKit
set_option maxRecDepth 100000 in
set_option maxHeartbeats 4000000 in
theorem funcsSmall_af (l : List Fu) (hv : Fu.sizes l ≤ 1048576) : AF Tryd.prog 17 [Fu.row l] Tell := by
  refine af_enter tok Tryd.func17 Tryd.ntmps17 Tryd.results17 rfl (by kernel_rfl) rfl rfl fun F hX => ?_
  repeat (first | refine gG ?_ | refine zN1 (fun hlen => ?_) | refine zN2 (fun hlen => ?_) | refine zAl (fun _ => ?_))
  refine x_loop [2, 4, 7, 8, 9, 10, 11, 12, 13, 14, 15, 16, 17, 18, 19, 20, 21, 22, 23, 24, 25, 26, 27, 28] (fun k : Nat => [(7, .c (.lit (.int .i64 k)))]) (fun _ => []) (fun k => k ≤ l.length) (fun k => l.length - k) 0 (Nat.zero_le _) ⟨rfl, trivial⟩ rfl fun k hk => ?_
  repeat (first | refine gG ?_ | refine zN1 (fun hlen => ?_) | refine zN2 (fun hlen => ?_) | refine zAl (fun _ => ?_))
  refine x_cond rfl (fun h => ?_) (fun h => ?_)
  · have hk' : k < l.length := by simpa using h
    obtain ⟨a, ha⟩ := nth hk'
    have hs := Fu.size_mem (List.mem_of_getElem? ha)
    simp only [Fu.size] at hs
    have h1 := typesSmall_af a.types (by omega)
    have h2 := typesSmall_af [a.out] (by simp only [Y.sizes]; omega)
    have h3 := exprSmall_af a.body (by omega)
    repeat (first | refine gG ?_ | refine zN1 (fun hlen => ?_) | refine zN2 (fun hlen => ?_) | refine zAl (fun _ => ?_))
    refine zIx (k) (hk') ?_
    repeat (first | refine gG ?_ | refine zN1 (fun hlen => ?_) | refine zN2 (fun hlen => ?_) | refine zAl (fun _ => ?_))
    refine zEl (Fu.at ha) (Fu.ts_len a) ?_
    obtain ⟨nm, ps, ns, ys, ⟨ka, ta, la⟩, ⟨kb, nb, tb, nsb, ysb, lb, rsb, pb⟩⟩ := a
    dsimp only at h1 h2 h3
    repeat (first | refine gG ?_ | refine zN1 (fun hlen => ?_) | refine zN2 (fun hlen => ?_) | refine zAl (fun _ => ?_))
    refine zCall (h1) ?_
    rintro _ ⟨b1, rfl⟩
    cases b1
    · repeat (first | refine gG ?_ | refine zN1 (fun hlen => ?_) | refine zN2 (fun hlen => ?_) | refine zAl (fun _ => ?_))
      first | refine zR ?_ | refine zQ ?_
      exact ⟨_, rfl⟩
    · repeat (first | refine gG ?_ | refine zN1 (fun hlen => ?_) | refine zN2 (fun hlen => ?_) | refine zAl (fun _ => ?_))
      refine zCall (h2) ?_
      rintro _ ⟨b2, rfl⟩
      cases b2
      · repeat (first | refine gG ?_ | refine zN1 (fun hlen => ?_) | refine zN2 (fun hlen => ?_) | refine zAl (fun _ => ?_))
        first | refine zR ?_ | refine zQ ?_
        exact ⟨_, rfl⟩
      · repeat (first | refine gG ?_ | refine zN1 (fun hlen => ?_) | refine zN2 (fun hlen => ?_) | refine zAl (fun _ => ?_))
        refine zCall (h3) ?_
        rintro _ ⟨b3, rfl⟩
        cases b3
        · repeat (first | refine gG ?_ | refine zN1 (fun hlen => ?_) | refine zN2 (fun hlen => ?_) | refine zAl (fun _ => ?_))
          first | refine zR ?_ | refine zQ ?_
          exact ⟨_, rfl⟩
        · repeat (first | refine gG ?_ | refine zN1 (fun hlen => ?_) | refine zN2 (fun hlen => ?_) | refine zAl (fun _ => ?_))
          exact ⟨k + 1, hk', by omega, x_wkd 0 ⟨rfl, trivial⟩ rfl (by repeat (first | exact ag_refl | refine ag_upd rfl ?_ | refine ag_at rfl rfl ?_))⟩
  · repeat (first | refine gG ?_ | refine zN1 (fun hlen => ?_) | refine zN2 (fun hlen => ?_) | refine zAl (fun _ => ?_))
    first | refine zR ?_ | refine zQ ?_
    exact ⟨_, rfl⟩
set_option maxRecDepth 100000 in
set_option maxHeartbeats 4000000 in
theorem programSmall_af (p : Pr) (hv : p.size ≤ 1048576) : AF Tryd.prog 5 [p.t] Tell := by
  obtain ⟨pn, pv, us, das, trs, ims, fus, acs⟩ := p
  simp only [Pr.size] at hv
  have hl1 := Da.len_sizes das
  have hl2 := Tr.len_sizes trs
  have hl3 := Im.len_sizes ims
  have hl4 := Fu.len_sizes fus
  have hl5 := Ac.len_sizes acs
  have hfs := funcsSmall_af fus (by omega)
  refine af_enter tok Tryd.func5 Tryd.ntmps5 Tryd.results5 rfl (by kernel_rfl) rfl rfl fun F hX => ?_
  repeat (first | refine gG ?_ | refine zN1 (fun hlen => ?_) | refine zN2 (fun hlen => ?_) | refine zAl (fun _ => ?_) | refine zBx (fun _ => ?_))
  rename_i b0 _
  refine lo_add rfl rfl (r := ((das.length + trs.length : Nat) : Int)) (by rw [IntWalk.i64_in _ (by omega)]; omega) ?_
  repeat (first | refine gG ?_ | refine zN1 (fun hlen => ?_) | refine zN2 (fun hlen => ?_) | refine zAl (fun _ => ?_) | refine zBx (fun _ => ?_))
  refine lo_add rfl rfl (r := ((das.length + trs.length + ims.length : Nat) : Int)) (by rw [IntWalk.i64_in _ (by omega)]; omega) ?_
  repeat (first | refine gG ?_ | refine zN1 (fun hlen => ?_) | refine zN2 (fun hlen => ?_) | refine zAl (fun _ => ?_) | refine zBx (fun _ => ?_))
  refine lo_add rfl rfl (r := ((das.length + trs.length + ims.length + fus.length : Nat) : Int)) (by rw [IntWalk.i64_in _ (by omega)]; omega) ?_
  repeat (first | refine gG ?_ | refine zN1 (fun hlen => ?_) | refine zN2 (fun hlen => ?_) | refine zAl (fun _ => ?_) | refine zBx (fun _ => ?_))
  refine lo_add rfl rfl (r := ((das.length + trs.length + ims.length + fus.length + acs.length : Nat) : Int)) (by rw [IntWalk.i64_in _ (by omega)]; omega) ?_
  cases d1 : decide ((200 : Int) < ((das.length + trs.length + ims.length + fus.length + acs.length : Nat) : Int))
  · repeat (first | refine gG ?_ | refine zN1 (fun hlen => ?_) | refine zN2 (fun hlen => ?_) | refine zAl (fun _ => ?_) | refine zBx (fun _ => ?_))
    refine zCall (hfs) ?_
    rintro _ ⟨b1, rfl⟩
    cases b1
    · repeat (first | refine gG ?_ | refine zN1 (fun hlen => ?_) | refine zN2 (fun hlen => ?_) | refine zAl (fun _ => ?_) | refine zBx (fun _ => ?_))
      first | refine zR ?_ | refine zQ ?_
      exact ⟨_, rfl⟩
    repeat (first | refine gG ?_ | refine zN1 (fun hlen => ?_) | refine zN2 (fun hlen => ?_) | refine zAl (fun _ => ?_) | refine zBx (fun _ => ?_))
    refine x_loop [2, 4, 6, 42, 43, 44, 45, 46, 47, 48, 49, 50, 51, 52, 53, 54, 55, 56, 57, 58] (fun k : Nat => [(42, .c (.lit (.int .i64 k)))]) (fun _ => [.box b0 29 [.c (.lit (.string pn)), .c (.lit (.int .i64 pv)), .c (Us.row us), .c (Da.row das), .c (Tr.row trs), .c (Im.row ims), .c (Fu.row fus), .c (Ac.row acs)]]) (fun k => k ≤ das.length) (fun k => das.length - k) 0 (Nat.zero_le _) ⟨rfl, trivial⟩ rfl fun k hk => ?_
    repeat (first | refine gG ?_ | refine zN1 (fun hlen => ?_) | refine zN2 (fun hlen => ?_) | refine zAl (fun _ => ?_) | refine zBx (fun _ => ?_))
    refine x_cond rfl (fun h => ?_) (fun h => ?_)
    · have hk' : k < das.length := by simpa using h
      obtain ⟨a, ha⟩ := nth hk'
      have hs := Da.size_mem (List.mem_of_getElem? ha)
      simp only [Da.size] at hs
      repeat (first | refine gG ?_ | refine zN1 (fun hlen => ?_) | refine zN2 (fun hlen => ?_) | refine zAl (fun _ => ?_) | refine zBx (fun _ => ?_))
      refine zIx (k) (hk') ?_
      repeat (first | refine gG ?_ | refine zN1 (fun hlen => ?_) | refine zN2 (fun hlen => ?_) | refine zAl (fun _ => ?_) | refine zBx (fun _ => ?_))
      refine zEl (Da.at ha) (Da.ts_len a) ?_
      obtain ⟨dn, dps, mks⟩ := a
      dsimp only at hs
      repeat (first | refine gG ?_ | refine zN1 (fun hlen => ?_) | refine zN2 (fun hlen => ?_) | refine zAl (fun _ => ?_) | refine zBx (fun _ => ?_))
      rename_i b1
      refine x_loop [2, 6, 49, 50, 51, 52, 53, 54, 55, 56, 57] (fun k : Nat => [(49, .c (.lit (.int .i64 k)))]) (fun _ => [.box b0 29 [.c (.lit (.string pn)), .c (.lit (.int .i64 pv)), .c (Us.row us), .c (Da.row das), .c (Tr.row trs), .c (Im.row ims), .c (Fu.row fus), .c (Ac.row acs)], .box b1 56 [.c (.lit (.string dn)), .c (strRow dps), .c (Mk.row mks)]]) (fun k => k ≤ mks.length) (fun k => mks.length - k) 0 (Nat.zero_le _) ⟨rfl, trivial⟩ rfl fun j hj => ?_
      repeat (first | refine gG ?_ | refine zN1 (fun hlen => ?_) | refine zN2 (fun hlen => ?_) | refine zAl (fun _ => ?_) | refine zBx (fun _ => ?_))
      refine x_cond rfl (fun h => ?_) (fun h => ?_)
      · have hj' : j < mks.length := by simpa using h
        obtain ⟨m, hm⟩ := nth hj'
        have hms := Mk.size_mem (List.mem_of_getElem? hm)
        simp only [Mk.size] at hms
        have h1 := typesSmall_af m.args (by omega)
        repeat (first | refine gG ?_ | refine zN1 (fun hlen => ?_) | refine zN2 (fun hlen => ?_) | refine zAl (fun _ => ?_) | refine zBx (fun _ => ?_))
        refine zIx (j) (hj') ?_
        repeat (first | refine gG ?_ | refine zN1 (fun hlen => ?_) | refine zN2 (fun hlen => ?_) | refine zAl (fun _ => ?_) | refine zBx (fun _ => ?_))
        refine zEl (Mk.at hm) (Mk.ts_len m) ?_
        repeat (first | refine gG ?_ | refine zN1 (fun hlen => ?_) | refine zN2 (fun hlen => ?_) | refine zAl (fun _ => ?_) | refine zBx (fun _ => ?_))
        refine zCall (h1) ?_
        rintro _ ⟨b2, rfl⟩
        cases b2
        · repeat (first | refine gG ?_ | refine zN1 (fun hlen => ?_) | refine zN2 (fun hlen => ?_) | refine zAl (fun _ => ?_) | refine zBx (fun _ => ?_))
          first | refine zR ?_ | refine zQ ?_
          exact ⟨_, rfl⟩
        · repeat (first | refine gG ?_ | refine zN1 (fun hlen => ?_) | refine zN2 (fun hlen => ?_) | refine zAl (fun _ => ?_) | refine zBx (fun _ => ?_))
          exact ⟨j + 1, hj', by omega, x_wkd 2 ⟨rfl, trivial⟩ rfl (by repeat (first | exact ag_refl | refine ag_upd rfl ?_ | refine ag_at rfl rfl ?_))⟩
      · repeat (first | refine gG ?_ | refine zN1 (fun hlen => ?_) | refine zN2 (fun hlen => ?_) | refine zAl (fun _ => ?_) | refine zBx (fun _ => ?_))
        exact ⟨k + 1, hk', by omega, x_wkd 1 ⟨rfl, trivial⟩ rfl (by repeat (first | exact ag_refl | refine ag_upd rfl ?_ | refine ag_at rfl rfl ?_))⟩
    · repeat (first | refine gG ?_ | refine zN1 (fun hlen => ?_) | refine zN2 (fun hlen => ?_) | refine zAl (fun _ => ?_) | refine zBx (fun _ => ?_))
      refine x_loop [2, 8, 62, 63, 64, 65, 66, 67, 68, 69, 70] (fun k : Nat => [(62, .c (.lit (.int .i64 k)))]) (fun _ => [.box b0 29 [.c (.lit (.string pn)), .c (.lit (.int .i64 pv)), .c (Us.row us), .c (Da.row das), .c (Tr.row trs), .c (Im.row ims), .c (Fu.row fus), .c (Ac.row acs)]]) (fun k => k ≤ trs.length) (fun k => trs.length - k) 0 (Nat.zero_le _) ⟨rfl, trivial⟩ rfl fun k hk => ?_
      repeat (first | refine gG ?_ | refine zN1 (fun hlen => ?_) | refine zN2 (fun hlen => ?_) | refine zAl (fun _ => ?_) | refine zBx (fun _ => ?_))
      refine x_cond rfl (fun h => ?_) (fun h => ?_)
      · have hk' : k < trs.length := by simpa using h
        obtain ⟨a, ha⟩ := nth hk'
        have hs := Tr.size_mem (List.mem_of_getElem? ha)
        simp only [Tr.size] at hs
        have h1 := funcsSmall_af a.funcs (by omega)
        repeat (first | refine gG ?_ | refine zN1 (fun hlen => ?_) | refine zN2 (fun hlen => ?_) | refine zAl (fun _ => ?_) | refine zBx (fun _ => ?_))
        refine zIx (k) (hk') ?_
        repeat (first | refine gG ?_ | refine zN1 (fun hlen => ?_) | refine zN2 (fun hlen => ?_) | refine zAl (fun _ => ?_) | refine zBx (fun _ => ?_))
        refine zEl (Tr.at ha) (Tr.ts_len a) ?_
        repeat (first | refine gG ?_ | refine zN1 (fun hlen => ?_) | refine zN2 (fun hlen => ?_) | refine zAl (fun _ => ?_) | refine zBx (fun _ => ?_))
        refine zCall (h1) ?_
        rintro _ ⟨b1, rfl⟩
        cases b1
        · repeat (first | refine gG ?_ | refine zN1 (fun hlen => ?_) | refine zN2 (fun hlen => ?_) | refine zAl (fun _ => ?_) | refine zBx (fun _ => ?_))
          first | refine zR ?_ | refine zQ ?_
          exact ⟨_, rfl⟩
        · repeat (first | refine gG ?_ | refine zN1 (fun hlen => ?_) | refine zN2 (fun hlen => ?_) | refine zAl (fun _ => ?_) | refine zBx (fun _ => ?_))
          exact ⟨k + 1, hk', by omega, x_wkd 1 ⟨rfl, trivial⟩ rfl (by repeat (first | exact ag_refl | refine ag_upd rfl ?_ | refine ag_at rfl rfl ?_))⟩
      · repeat (first | refine gG ?_ | refine zN1 (fun hlen => ?_) | refine zN2 (fun hlen => ?_) | refine zAl (fun _ => ?_) | refine zBx (fun _ => ?_))
        refine x_loop [2, 10, 74, 75, 76, 77, 78, 79, 80, 81, 82] (fun k : Nat => [(74, .c (.lit (.int .i64 k)))]) (fun _ => [.box b0 29 [.c (.lit (.string pn)), .c (.lit (.int .i64 pv)), .c (Us.row us), .c (Da.row das), .c (Tr.row trs), .c (Im.row ims), .c (Fu.row fus), .c (Ac.row acs)]]) (fun k => k ≤ ims.length) (fun k => ims.length - k) 0 (Nat.zero_le _) ⟨rfl, trivial⟩ rfl fun k hk => ?_
        repeat (first | refine gG ?_ | refine zN1 (fun hlen => ?_) | refine zN2 (fun hlen => ?_) | refine zAl (fun _ => ?_) | refine zBx (fun _ => ?_))
        refine x_cond rfl (fun h => ?_) (fun h => ?_)
        · have hk' : k < ims.length := by simpa using h
          obtain ⟨a, ha⟩ := nth hk'
          have hs := Im.size_mem (List.mem_of_getElem? ha)
          simp only [Im.size] at hs
          have h1 := funcsSmall_af a.funcs (by omega)
          repeat (first | refine gG ?_ | refine zN1 (fun hlen => ?_) | refine zN2 (fun hlen => ?_) | refine zAl (fun _ => ?_) | refine zBx (fun _ => ?_))
          refine zIx (k) (hk') ?_
          repeat (first | refine gG ?_ | refine zN1 (fun hlen => ?_) | refine zN2 (fun hlen => ?_) | refine zAl (fun _ => ?_) | refine zBx (fun _ => ?_))
          refine zEl (Im.at ha) (Im.ts_len a) ?_
          repeat (first | refine gG ?_ | refine zN1 (fun hlen => ?_) | refine zN2 (fun hlen => ?_) | refine zAl (fun _ => ?_) | refine zBx (fun _ => ?_))
          refine zCall (h1) ?_
          rintro _ ⟨b1, rfl⟩
          cases b1
          · repeat (first | refine gG ?_ | refine zN1 (fun hlen => ?_) | refine zN2 (fun hlen => ?_) | refine zAl (fun _ => ?_) | refine zBx (fun _ => ?_))
            first | refine zR ?_ | refine zQ ?_
            exact ⟨_, rfl⟩
          · repeat (first | refine gG ?_ | refine zN1 (fun hlen => ?_) | refine zN2 (fun hlen => ?_) | refine zAl (fun _ => ?_) | refine zBx (fun _ => ?_))
            exact ⟨k + 1, hk', by omega, x_wkd 1 ⟨rfl, trivial⟩ rfl (by repeat (first | exact ag_refl | refine ag_upd rfl ?_ | refine ag_at rfl rfl ?_))⟩
        · repeat (first | refine gG ?_ | refine zN1 (fun hlen => ?_) | refine zN2 (fun hlen => ?_) | refine zAl (fun _ => ?_) | refine zBx (fun _ => ?_))
          refine x_drop 0 rfl ?_
          refine x_loop [2, 12, 86, 87, 88, 89, 90, 91, 92, 93, 94, 95, 96, 97, 98, 99, 100, 101, 102, 103, 104, 105, 106, 107] (fun k : Nat => [(86, .c (.lit (.int .i64 k)))]) (fun _ => []) (fun k => k ≤ acs.length) (fun k => acs.length - k) 0 (Nat.zero_le _) ⟨rfl, trivial⟩ rfl fun k hk => ?_
          repeat (first | refine gG ?_ | refine zN1 (fun hlen => ?_) | refine zN2 (fun hlen => ?_) | refine zAl (fun _ => ?_) | refine zBx (fun _ => ?_))
          refine x_cond rfl (fun h => ?_) (fun h => ?_)
          · have hk' : k < acs.length := by simpa using h
            obtain ⟨a, ha⟩ := nth hk'
            have hs := Ac.size_mem (List.mem_of_getElem? ha)
            simp only [Ac.size] at hs
            have h1 := typesSmall_af a.types (by omega)
            have h2 := typesSmall_af [a.msg] (by simp only [Y.sizes]; omega)
            have h3 := exprSmall_af a.body (by omega)
            repeat (first | refine gG ?_ | refine zN1 (fun hlen => ?_) | refine zN2 (fun hlen => ?_) | refine zAl (fun _ => ?_) | refine zBx (fun _ => ?_))
            refine zIx (k) (hk') ?_
            repeat (first | refine gG ?_ | refine zN1 (fun hlen => ?_) | refine zN2 (fun hlen => ?_) | refine zAl (fun _ => ?_) | refine zBx (fun _ => ?_))
            refine zEl (Ac.at ha) (Ac.ts_len a) ?_
            obtain ⟨nm, ns, ys, ⟨ka, ta, la⟩, ⟨kb, nb, tb, nsb, ysb, lb, rsb, pb⟩⟩ := a
            dsimp only at h1 h2 h3
            repeat (first | refine gG ?_ | refine zN1 (fun hlen => ?_) | refine zN2 (fun hlen => ?_) | refine zAl (fun _ => ?_) | refine zBx (fun _ => ?_))
            refine zCall (h1) ?_
            rintro _ ⟨b1, rfl⟩
            cases b1
            · repeat (first | refine gG ?_ | refine zN1 (fun hlen => ?_) | refine zN2 (fun hlen => ?_) | refine zAl (fun _ => ?_) | refine zBx (fun _ => ?_))
              first | refine zR ?_ | refine zQ ?_
              exact ⟨_, rfl⟩
            · repeat (first | refine gG ?_ | refine zN1 (fun hlen => ?_) | refine zN2 (fun hlen => ?_) | refine zAl (fun _ => ?_) | refine zBx (fun _ => ?_))
              refine zCall (h2) ?_
              rintro _ ⟨b2, rfl⟩
              cases b2
              · repeat (first | refine gG ?_ | refine zN1 (fun hlen => ?_) | refine zN2 (fun hlen => ?_) | refine zAl (fun _ => ?_) | refine zBx (fun _ => ?_))
                first | refine zR ?_ | refine zQ ?_
                exact ⟨_, rfl⟩
              · repeat (first | refine gG ?_ | refine zN1 (fun hlen => ?_) | refine zN2 (fun hlen => ?_) | refine zAl (fun _ => ?_) | refine zBx (fun _ => ?_))
                refine zCall (h3) ?_
                rintro _ ⟨b3, rfl⟩
                cases b3
                · repeat (first | refine gG ?_ | refine zN1 (fun hlen => ?_) | refine zN2 (fun hlen => ?_) | refine zAl (fun _ => ?_) | refine zBx (fun _ => ?_))
                  first | refine zR ?_ | refine zQ ?_
                  exact ⟨_, rfl⟩
                · repeat (first | refine gG ?_ | refine zN1 (fun hlen => ?_) | refine zN2 (fun hlen => ?_) | refine zAl (fun _ => ?_) | refine zBx (fun _ => ?_))
                  exact ⟨k + 1, hk', by omega, x_wkd 0 ⟨rfl, trivial⟩ rfl (by repeat (first | exact ag_refl | refine ag_upd rfl ?_ | refine ag_at rfl rfl ?_))⟩
          · repeat (first | refine gG ?_ | refine zN1 (fun hlen => ?_) | refine zN2 (fun hlen => ?_) | refine zAl (fun _ => ?_) | refine zBx (fun _ => ?_))
            first | refine zR ?_ | refine zQ ?_
            exact ⟨_, rfl⟩
  · repeat (first | refine gG ?_ | refine zN1 (fun hlen => ?_) | refine zN2 (fun hlen => ?_) | refine zAl (fun _ => ?_) | refine zBx (fun _ => ?_))
    first | refine zR ?_ | refine zQ ?_
    exact ⟨_, rfl⟩
end Go.Proofs.YtbfomgchjlkopaaDoor
