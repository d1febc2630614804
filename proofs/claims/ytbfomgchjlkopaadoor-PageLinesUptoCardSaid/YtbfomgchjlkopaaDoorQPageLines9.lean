/-
  Texts of this proof, part 9: Ped Pwa Pwb Pwc.
-/
import Derived.Test.YtbfomgchjlkopaaDoorQPageLines8
import Derived.Laws.IdiomRangeMap
import Derived.MapKept
namespace Go.Proofs.YtbfomgchjlkopaaDoor
open Go.RowKit
theorem en_snoc {α : Type} (f : α → En) {l : List α} {k : Nat} {a : α} (h : l[k]? = some a) : ((l.take (k + 1)).map f).flatMap En.ts = ((l.take k).map f).flatMap En.ts ++ (f a).ts := by
  obtain ⟨hk, rfl⟩ := List.getElem?_eq_some_iff.1 h
  rw [List.take_succ_eq_append_getElem hk, List.map_append, List.flatMap_append]
  simp
set_option maxRecDepth 100000 in
set_option maxHeartbeats 1000000 in
theorem function_af (f : Fu) (hf : f.size ≤ 1048576) : AF Tryd.prog 29 [f.t] (· = .lit (.string (funS f))) := by
  have hz := funS_size f
  simp only [Fu.size] at hf
  have h1 := params_af f.params (by omega)
  have h2 := fields_af f.names f.types (by omega) (by omega)
  have h3 := pageType_af f.out (by omega)
  have z1 := parS_size f.params
  have z2 := fldsS_size f.names f.types
  have z3 := f.out.text_size
  unfold funS at *
  obtain ⟨nm, ps, ns, ys, o, ⟨kb, nb, tb, nsb, ysb, lb, rsb, pb⟩⟩ := f
  dsimp only at h1 h2 h3 z1 z2 z3 hf ⊢
  generalize parS ps = px at *
  generalize fldsS ns ys = fx at *
  generalize hox : o.text = ox at *
  obtain ⟨ka, ta, la⟩ := o
  clear hz
  refine af_enter tok Tryd.func29 Tryd.ntmps29 Tryd.results29 rfl (by kernel_rfl) rfl rfl fun F hX => ?_
  repeat (first | refine gG ?_ | refine zBx (fun _ => ?_))
  refine ac_draw [1, 1, 1, 1, 1, 1, 1, 1, 1, 1, 1, 1, 1, 1, 1, 1, 1, 1, 1] [0, 1, 2, 3, 4, 5, 6, 7, 8, 9, 10, 11, 12, 13, 14, 15, 16, 17, 18] (by kernel_rfl) (by kernel_rfl) ?_
  refine gW ?_
  apply w_q; (focus exact rfl); (focus exact rfl); focus (intro _; (refine zCat ?_); exact det_refl)
  refine gW ?_
  apply w_q; (focus exact rfl); (focus exact rfl); focus (intro _; (refine lo_call h1 rfl (by repeat (first | exact rzs_nil | apply rzs_cons | exact rz_c | exact rz_nil rfl | apply rz_agg | exact rz_own rfl | apply rz_fn | exact rz_ptr rfl | apply rz_tup)) ?_; rintro _ rfl); exact det_refl)
  apply w_q; (focus exact rfl); (focus exact rfl); focus (intro _; (refine zCat ?_); exact det_refl)
  refine gW ?_
  apply w_q; (focus exact rfl); (focus exact rfl); focus (intro _; (refine lo_call h2 rfl (by repeat (first | exact rzs_nil | apply rzs_cons | exact rz_c | exact rz_nil rfl | apply rz_agg | exact rz_own rfl | apply rz_fn | exact rz_ptr rfl | apply rz_tup)) ?_; rintro _ rfl); exact det_refl)
  apply w_q; (focus exact rfl); (focus exact rfl); focus (intro _; (refine zCat ?_); exact det_refl)
  apply w_q; (focus exact rfl); (focus exact rfl); focus (intro _; (refine zCat ?_); exact det_refl)
  refine gW ?_
  apply w_q; (focus exact rfl); (focus exact rfl); focus (intro _; (refine lo_call h3 rfl (by repeat (first | exact rzs_nil | apply rzs_cons | exact rz_c | exact rz_nil rfl | apply rz_agg | exact rz_own rfl | apply rz_fn | exact rz_ptr rfl | apply rz_tup)) ?_; rintro _ rfl); exact det_refl)
  apply w_q; (focus exact rfl); (focus exact rfl); focus (intro _; (refine zCat ?_); exact det_refl)
  refine gW ?_
  refine w_nil ?_
  repeat (first | refine gG ?_ | refine zBx (fun _ => ?_))
  first | refine zR ?_ | refine zQ ?_
  rfl
set_option maxRecDepth 100000 in
set_option maxHeartbeats 1000000 in
theorem headText_af (f : Fu) (hf : f.size ≤ 1048576) : AF Tryd.prog 22 [f.t] (· = .lit (.string (funS f))) := by
  have hz := funS_size f
  simp only [Fu.size] at hf
  have h1 := square_af f.params (by omega)
  have h2 := paired_af f.names f.types (by omega) (by omega)
  have h3 := typeText_af f.out (by omega)
  have z1 := parS_size f.params
  have z2 := fldsS_size f.names f.types
  have z3 := f.out.text_size
  unfold funS at *
  obtain ⟨nm, ps, ns, ys, o, ⟨kb, nb, tb, nsb, ysb, lb, rsb, pb⟩⟩ := f
  dsimp only at h1 h2 h3 z1 z2 z3 hf ⊢
  generalize parS ps = px at *
  generalize fldsS ns ys = fx at *
  generalize hox : o.text = ox at *
  obtain ⟨ka, ta, la⟩ := o
  clear hz
  refine af_enter tok Tryd.func22 Tryd.ntmps22 Tryd.results22 rfl (by kernel_rfl) rfl rfl fun F hX => ?_
  repeat (first | refine gG ?_ | refine zBx (fun _ => ?_))
  refine ac_draw [1, 1, 1, 1, 1, 1, 1, 1, 1, 1, 1, 1, 1, 1, 1, 1, 1, 1, 1] [0, 1, 2, 3, 4, 5, 6, 7, 8, 9, 10, 11, 12, 13, 14, 15, 16, 17, 18] (by kernel_rfl) (by kernel_rfl) ?_
  refine gW ?_
  apply w_q; (focus exact rfl); (focus exact rfl); focus (intro _; (refine zCat ?_); exact det_refl)
  refine gW ?_
  apply w_q; (focus exact rfl); (focus exact rfl); focus (intro _; (refine lo_call h1 rfl (by repeat (first | exact rzs_nil | apply rzs_cons | exact rz_c | exact rz_nil rfl | apply rz_agg | exact rz_own rfl | apply rz_fn | exact rz_ptr rfl | apply rz_tup)) ?_; rintro _ rfl); exact det_refl)
  apply w_q; (focus exact rfl); (focus exact rfl); focus (intro _; (refine zCat ?_); exact det_refl)
  refine gW ?_
  apply w_q; (focus exact rfl); (focus exact rfl); focus (intro _; (refine lo_call h2 rfl (by repeat (first | exact rzs_nil | apply rzs_cons | exact rz_c | exact rz_nil rfl | apply rz_agg | exact rz_own rfl | apply rz_fn | exact rz_ptr rfl | apply rz_tup)) ?_; rintro _ rfl); exact det_refl)
  apply w_q; (focus exact rfl); (focus exact rfl); focus (intro _; (refine zCat ?_); exact det_refl)
  apply w_q; (focus exact rfl); (focus exact rfl); focus (intro _; (refine zCat ?_); exact det_refl)
  refine gW ?_
  apply w_q; (focus exact rfl); (focus exact rfl); focus (intro _; (refine lo_call h3 rfl (by repeat (first | exact rzs_nil | apply rzs_cons | exact rz_c | exact rz_nil rfl | apply rz_agg | exact rz_own rfl | apply rz_fn | exact rz_ptr rfl | apply rz_tup)) ?_; rintro _ rfl); exact det_refl)
  apply w_q; (focus exact rfl); (focus exact rfl); focus (intro _; (refine zCat ?_); exact det_refl)
  refine gW ?_
  refine w_nil ?_
  repeat (first | refine gG ?_ | refine zBx (fun _ => ?_))
  first | refine zR ?_ | refine zQ ?_
  rfl
set_option maxRecDepth 100000 in
set_option maxHeartbeats 2000000 in
theorem dataEntries_af (d : Da) (hd : d.size ≤ 1048576) : AF Tryd.prog 27 [d.t] (· = En.row (daE d)) := by
  obtain ⟨nm, ps, l⟩ := d
  have h0 : nm.size + strSize ps + Mk.sizes l + 1 ≤ 1048576 := hd
  have hls := Mk.len_sizes l
  have h1 := params_af ps (by omega)
  have z1 := parS_size ps
  have z2 := desc_lens l
  have hj := join_af (l.map descS) ⟨#[32, 124, 32]⟩ (by simp; omega) (by
    have h3 := joinS_size3 ⟨#[32, 124, 32]⟩ (by decide) (l.map descS)
    have h4 : (joinS (l.map descS) ⟨#[32, 124, 32]⟩).size = (Lib.join ((l.map descS).map (·.data.toList)) (⟨#[32, 124, 32]⟩ : ByteArray).data.toList).length := by simp [joinS, ByteArray.size]
    rw [List.length_map] at h3
    omega)
  have hjs := joinS_size3 ⟨#[32, 124, 32]⟩ (by decide) (l.map descS)
  have hxl : (l.map descS).length = l.length := by simp
  have hE : daE ⟨nm, ps, l⟩ = l.map (mkE ⟨nm, ps, l⟩) ++ [⟨nm, 1, ⟨#[]⟩, ⟨#[100, 97, 116, 97, 32]⟩ ++ nm ++ parS ps ++ ⟨#[32, 61, 32]⟩ ++ joinS (l.map descS) ⟨#[32, 124, 32]⟩⟩] := rfl
  rw [hE]
  have hmk : ∀ a : Mk, mkE ⟨nm, ps, l⟩ a = ⟨a.name, 2, nm, descS a ++ ⟨#[32, 111, 102, 32]⟩ ++ nm ++ parS ps⟩ := fun _ => rfl
  generalize mkE ⟨nm, ps, l⟩ = mf at *
  generalize parS ps = px at *
  clear hE hd
  refine af_enter tok Tryd.func27 Tryd.ntmps27 Tryd.results27 rfl (by kernel_rfl) rfl rfl fun F hX => ?_
  repeat (first | refine gG ?_ | refine zN1 (fun hlen => ?_) | refine zN2 (fun hlen => ?_) | refine zAl (fun _ => ?_) | refine zBx (fun _ => ?_) | refine zAp (fun _ => ?_))
  rename_i b0
  refine x_own 3 40 4 rfl rfl rfl rfl rfl ?_
  refine x_own 4 9 1 rfl rfl rfl rfl rfl ?_
  refine x_loop [3, 4, 6, 7, 11, 12, 13, 14, 15, 16, 17, 18, 19, 20, 21, 22, 23, 24, 25, 26, 27, 28, 29, 30, 31, 32, 33, 34, 35, 36, 37, 38] (fun y : Nat × Value × Value => [(11, .c (.lit (.int .i64 y.1))), (3, .own 1 y.2.1), (4, .own 2 y.2.2)])
    (fun y => [.box b0 56 [.c (.lit (.string nm)), .c (strRow ps), .c (Mk.row l)], .row y.2.1 40 4 ((l.take y.1).map mf).length (((l.take y.1).map mf).flatMap En.ts), .row y.2.2 9 1 ((l.take y.1).map descS).length (((l.take y.1).map descS).flatMap strTs)])
    (fun y => y.1 ≤ l.length) (fun y => l.length - y.1) (0, .slice none 0 0, .slice none 0 0) (Nat.zero_le _) ⟨rfl, rfl, rfl, trivial⟩ rfl ?_
  rintro ⟨i, v, u⟩ hk
  dsimp only at hk ⊢
  have hlk := len_mt descS hk
  have hlk2 := len_mt mf hk
  repeat (first | refine gG ?_ | refine zN1 (fun hlen => ?_) | refine zN2 (fun hlen => ?_) | refine zAl (fun _ => ?_) | refine zBx (fun _ => ?_) | refine zAp (fun _ => ?_))
  refine x_cond rfl (fun h => ?_) (fun h => ?_)
  · have hk' : i < l.length := by simpa using h
    obtain ⟨a, ha⟩ := nth hk'
    have haz := Mk.size_mem (List.mem_of_getElem? ha)
    have hfa := description_af a (by omega)
    have hsn := str_snoc descS ha
    have hsl := len_ms descS ha
    have hsn2 := en_snoc mf ha
    have hsl2 := len_ms mf ha
    have hdz := descS_size a
    rw [hmk a] at hsn2
    dsimp only [En.ts] at hsn2
    repeat (first | refine gG ?_ | refine zN1 (fun hlen => ?_) | refine zN2 (fun hlen => ?_) | refine zAl (fun _ => ?_) | refine zBx (fun _ => ?_) | refine zAp (fun _ => ?_))
    refine zIx (i) (hk') ?_
    repeat (first | refine gG ?_ | refine zN1 (fun hlen => ?_) | refine zN2 (fun hlen => ?_) | refine zAl (fun _ => ?_) | refine zBx (fun _ => ?_) | refine zAp (fun _ => ?_))
    refine zEl (Mk.at ha) (Mk.ts_len a) ?_
    generalize descS a = ax at *
    obtain ⟨na, ya⟩ := a
    dsimp only at hsn2
    repeat (first | refine gG ?_ | refine zN1 (fun hlen => ?_) | refine zN2 (fun hlen => ?_) | refine zAl (fun _ => ?_) | refine zBx (fun _ => ?_) | refine zAp (fun _ => ?_))
    refine zCall (hfa) ?_
    rintro _ rfl
    repeat (first | refine gG ?_ | refine zN1 (fun hlen => ?_) | refine zN2 (fun hlen => ?_) | refine zAl (fun _ => ?_) | refine zBx (fun _ => ?_) | refine zAp (fun _ => ?_))
    refine ac_draw [1, 1, 1, 1, 1, 1, 1, 1, 1, 1, 1, 1, 1, 1, 1, 1, 2, 1] [0, 1, 2, 3, 4, 5, 6, 7, 8, 9, 10, 11, 12, 13, 14, 15, 16, 17] (by kernel_rfl) (by kernel_rfl) ?_
    refine gW ?_
    apply w_q; (focus exact rfl); (focus exact rfl); focus (intro _; (refine zCat ?_); exact det_refl)
    refine gW ?_
    apply w_q; (focus exact rfl); (focus exact rfl); focus (intro _; (refine zCat ?_); exact det_refl)
    refine gW ?_
    apply w_q; (focus exact rfl); (focus exact rfl); focus (intro _; (refine lo_call h1 rfl (by repeat (first | exact rzs_nil | apply rzs_cons | exact rz_c | exact rz_nil rfl | apply rz_agg | exact rz_own rfl | apply rz_fn | exact rz_ptr rfl | apply rz_tup)) ?_; rintro _ rfl); exact det_refl)
    apply w_q; (focus exact rfl); (focus exact rfl); focus (intro _; (refine zCat ?_); exact det_refl)
    refine gW ?_
    apply w_l; (focus exact rfl); (focus exact rfl); (refine zAp (fun _ => ?_))
    refine gW ?_
    refine w_nil ?_
    repeat (first | refine gG ?_ | refine zN1 (fun hlen => ?_) | refine zN2 (fun hlen => ?_) | refine zAl (fun _ => ?_) | refine zBx (fun _ => ?_) | refine zAp (fun _ => ?_))
    exact ⟨(i + 1, _, _), hk', by simp only; omega, x_wkd 3 ⟨rfl, rfl, rfl, trivial⟩ (by simp only [hsn, hsl, hsn2, hsl2]; rfl) (by repeat (first | exact ag_refl | refine ag_upd rfl ?_ | refine ag_at rfl rfl ?_))⟩
  · have hk' : i = l.length := by have : ¬ i < l.length := by simpa using h
                                  omega
    subst hk'
    rw [List.take_length] at *
    clear hlk
    refine x_frz hX 4 rfl rfl rfl rfl ?_
    generalize joinS (l.map descS) ⟨#[32, 124, 32]⟩ = jx at *
    repeat (first | refine gG ?_ | refine zN1 (fun hlen => ?_) | refine zN2 (fun hlen => ?_) | refine zAl (fun _ => ?_) | refine zBx (fun _ => ?_) | refine zAp (fun _ => ?_))
    refine ac_draw [1, 1, 1, 1, 1, 1, 1, 1, 1, 1, 1, 1, 1, 1, 1, 1, 2, 1] [0, 1, 2, 3, 4, 5, 6, 7, 8, 9, 10, 11, 12, 13, 14, 15, 16, 17] (by kernel_rfl) (by kernel_rfl) ?_
    refine gW ?_
    apply w_q; (focus exact rfl); (focus exact rfl); focus (intro _; (refine zCat ?_); exact det_refl)
    refine gW ?_
    apply w_q; (focus exact rfl); (focus exact rfl); focus (intro _; (refine lo_call h1 rfl (by repeat (first | exact rzs_nil | apply rzs_cons | exact rz_c | exact rz_nil rfl | apply rz_agg | exact rz_own rfl | apply rz_fn | exact rz_ptr rfl | apply rz_tup)) ?_; rintro _ rfl); exact det_refl)
    apply w_q; (focus exact rfl); (focus exact rfl); focus (intro _; (refine zCat ?_); exact det_refl)
    apply w_q; (focus exact rfl); (focus exact rfl); focus (intro _; (refine zCat ?_); exact det_refl)
    refine gW ?_
    apply w_q; (focus exact rfl); (focus exact rfl); focus (intro _; (refine lo_call hj rfl (by repeat (first | exact rzs_nil | apply rzs_cons | exact rz_c | exact rz_nil rfl | apply rz_agg | exact rz_own rfl | apply rz_fn | exact rz_ptr rfl | apply rz_tup)) ?_; rintro _ rfl); exact det_refl)
    apply w_q; (focus exact rfl); (focus exact rfl); focus (intro _; (refine zCat ?_); exact det_refl)
    refine gW ?_
    apply w_l; (focus exact rfl); (focus exact rfl); (refine zAp (fun _ => ?_))
    refine gW ?_
    refine w_nil ?_
    repeat (first | refine gG ?_ | refine zN1 (fun hlen => ?_) | refine zN2 (fun hlen => ?_) | refine zAl (fun _ => ?_) | refine zBx (fun _ => ?_) | refine zAp (fun _ => ?_))
    first | refine zR ?_ | refine zQ ?_
    rw [En.row, List.length_append, List.flatMap_append]
    rfl
end Go.Proofs.YtbfomgchjlkopaaDoor
namespace Go.Proofs.YtbfomgchjlkopaaDoor
open Go.RowKit
theorem en_one {l : List En} {i : Nat} {x : En} {L' : List En} (hi : i < l.length) (h : l.set i x = L') : spl (l.flatMap En.ts) (i * 4) (En.ts x) = L'.flatMap En.ts := by
  rw [← h]
  exact spl_flat En.ts 4 En.ts_len l i x hi
theorem en_len (l : List En) : (l.flatMap En.ts).length = l.length * 4 := by
  have := len_flat (f := En.ts) (sz := 4) En.ts_len l
  omega
set_option maxRecDepth 100000 in
set_option maxHeartbeats 4000000 in
theorem swR_ag (w : Value) (n : Nat) (X U Y V Z : List En) (h : U.length = V.length) (hn : (X ++ (U ++ (Y ++ (V ++ Z)))).length = n) (hb : n ≤ 2097152) (f : FuncId) (cap : List T) :
    AG Tryd.prog 83 [.own 0 w, .c (.lit (.int .i64 (X.length : Nat))), .c (.lit (.int .i64 ((X.length + U.length + Y.length : Nat) : Int))), .c (.lit (.int .i64 (U.length : Nat))), .c (.fn (.func f) cap)] [.row w 40 4 n ((X ++ (U ++ (Y ++ (V ++ Z)))).flatMap En.ts)] (fun r hs => r = .tup [] ∧ hs = [.row w 40 4 n ((X ++ (V ++ (Y ++ (U ++ Z)))).flatMap En.ts)]) := by
  have hl := swP_len (X := X) (Y := Y) (Z := Z) h
  rw [← swP_zero X U Y V Z, ← swP_end (X := X) (Y := Y) (Z := Z) h]
  rw [hn] at hl
  have hXU : X.length + U.length + Y.length + V.length ≤ n := by rw [← hn]; simp only [List.length_append]; omega
  clear hn
  refine ag_enter (1) tok Tryd.func83 Tryd.ntmps83 Tryd.results83 rfl (by kernel_rfl) rfl fun F => ?_
  repeat (first | refine gG ?_)
  refine x_loop [10, 11, 12, 13, 14, 15, 16, 17, 18, 19, 20, 21, 22, 23, 24, 25, 26, 27, 28, 29, 30, 31, 32, 33, 34, 35, 36, 37] (fun q : Nat => [(10, .c (.lit (.int .i64 (q : Nat))))]) (fun q => [.row w 40 4 n ((swP X U Y V Z q).flatMap En.ts)]) (fun q => q ≤ U.length) (fun q => U.length - q) 0 (Nat.zero_le _) ⟨rfl, trivial⟩ rfl ?_
  intro q hq
  repeat (first | refine gG ?_)
  refine x_cond rfl (fun hc => ?_) (fun hc => ?_)
  · have hq' : q < U.length := by simpa using hc
    have ga := swP_a (X := X) (Y := Y) (Z := Z) h hq'
    have gb := swP_b (X := X) (Y := Y) (Z := Z) h hq'
    have hs := swP_succ (X := X) (Y := Y) (Z := Z) h hq'
    have hla := hl q
    generalize swP X U Y V Z q = L at *
    generalize hL2 : swP X U Y V Z (q + 1) = L2 at *
    have ea := En.at ga
    have eb := En.at gb
    have hja : X.length + q < n := by omega
    have hjb : X.length + U.length + Y.length + q < n := by omega
    have s1 : spl (L.flatMap En.ts) ((X.length + q) * 4) (En.ts (V[q]'(by omega))) = (L.set (X.length + q) (V[q]'(by omega))).flatMap En.ts := en_one (by omega) rfl
    have s2 : spl ((L.set (X.length + q) (V[q]'(by omega))).flatMap En.ts) ((X.length + U.length + Y.length + q) * 4) (En.ts U[q]) = L2.flatMap En.ts := en_one (by rw [List.length_set]; omega) hs
    have b1 : (X.length + q) * 4 + 4 ≤ (L.flatMap En.ts).length := by rw [en_len]; omega
    have b2 : (X.length + U.length + Y.length + q) * 4 + 4 ≤ ((L.set (X.length + q) (V[q]'(by omega))).flatMap En.ts).length := by rw [en_len, List.length_set]; omega
    generalize L.set (X.length + q) (V[q]'(by omega)) = L1 at *
    generalize V[q]'(by omega) = vq at *
    generalize U[q] = uq at *
    clear hc hs ga gb hl h
    repeat (first | refine gG ?_)
    refine ac_drawB [0, 0, 0, 6, 0, 0, 0, 96, 0, 0, 0, 1536, 3840, 7936, 0, 0, 0, 98304, 245760, 507904, 1048335, 2096911, 4194303, 8388607] [1, 1, 1, 1, 0, 0, 0, 0, 1, 1, 1, 1, 1, 1, 1, 1, 1, 1, 1, 1, 1, 2, 1, 2] [0, 1, 2, 3, 4, 5, 6, 7, 8, 9, 10, 11, 12, 13, 14, 15, 16, 17, 18, 19, 20, 21, 22, 23] (by kernel_rfl) (by kernel_rfl) ?_
    refine gW ?_
    apply w_q; (focus exact rfl); (focus exact rfl); focus (intro _; (refine zAn (a := X.length) (b := q) ?_); exact det_refl)
    refine gW ?_
    apply w_p; (focus exact rfl); (focus exact rfl); focus (intro _; (refine zAn (a := X.length + U.length + Y.length) (b := q) ?_); exact det_refl)
    refine gW ?_
    apply w_q; (focus exact rfl); (focus exact rfl); focus (intro _; (refine zAn (a := X.length + U.length + Y.length) (b := q) ?_); exact det_refl)
    apply w_q; (focus exact rfl); (focus exact rfl); focus (intro _; (refine zIxo (X.length + U.length + Y.length + q) hjb ?_); exact det_refl)
    apply w_q; (focus exact rfl); (focus exact rfl); focus (intro _; (refine zElo eb (En.ts_len _) ?_); exact det_refl)
    refine gW ?_
    apply w_q; (focus exact rfl); (focus exact rfl); focus (intro _; (refine zAn (a := X.length) (b := q) ?_); exact det_refl)
    apply w_q; (focus exact rfl); (focus exact rfl); focus (intro _; (refine zIxo (X.length + q) hja ?_); exact det_refl)
    apply w_q; (focus exact rfl); (focus exact rfl); focus (intro _; (refine zElo ea (En.ts_len _) ?_); exact det_refl)
    apply w_q; (focus exact rfl); (focus exact rfl); focus (intro _; (refine zIxo (X.length + q) hja ?_); exact det_refl)
    apply w_l; (focus exact rfl); (focus exact rfl); (refine zSe s1 b1 ?_)
    apply w_q; (focus exact rfl); (focus exact rfl); focus (intro _; (refine zIxo (X.length + U.length + Y.length + q) hjb ?_); exact det_refl)
    apply w_l; (focus exact rfl); (focus exact rfl); (refine zSe s2 b2 ?_)
    refine w_nil ?_
    repeat (first | refine gG ?_)
    exact ⟨q + 1, hq', by omega, x_wkd 1 ⟨rfl, trivial⟩ (by rw [hL2]; rfl) (by repeat (first | exact ag_refl | refine ag_upd rfl ?_ | refine ag_at rfl rfl ?_))⟩
  · have hq' : q = U.length := by have : ¬ q < U.length := by simpa using hc
                                  omega
    subst hq'
    repeat (first | refine gG ?_)
    refine zG (vs := []) ?_
    exact ⟨rfl, rfl⟩
set_option maxRecDepth 100000 in
set_option maxHeartbeats 4000000 in
theorem rot_ag (w : Value) (n : Nat) (X A B Z : List En) (hA : A ≠ []) (hB : B ≠ []) (hn : (X ++ (A ++ (B ++ Z))).length = n) (hb : n ≤ 2097152) (f : FuncId) (cap : List T) :
    AG Tryd.prog 77 [.own 0 w, .c (.lit (.int .i64 (X.length : Nat))), .c (.lit (.int .i64 ((X.length + A.length : Nat) : Int))), .c (.lit (.int .i64 ((X.length + A.length + B.length : Nat) : Int))), .c (.fn (.func f) cap)] [.row w 40 4 n ((X ++ (A ++ (B ++ Z))).flatMap En.ts)] (fun r hs => r = .tup [] ∧ hs = [.row w 40 4 n ((X ++ (B ++ (A ++ Z))).flatMap En.ts)]) := by
  generalize hT : X ++ (B ++ (A ++ Z)) = Tg
  have ha := List.length_pos_iff.2 hA
  have hbb := List.length_pos_iff.2 hB
  have hle : X.length + A.length + B.length ≤ n := by rw [← hn]; simp only [List.length_append]; omega
  refine ag_enter (1) tok Tryd.func77 Tryd.ntmps77 Tryd.results77 rfl (by kernel_rfl) rfl fun F => ?_
  repeat (first | refine gG ?_)
  refine lo_sub rfl rfl (r := ((A.length : Nat) : Int)) (by rw [IntWalk.i64_in _ (by omega)]; omega) ?_
  repeat (first | refine gG ?_)
  refine lo_sub rfl rfl (r := ((B.length : Nat) : Int)) (by rw [IntWalk.i64_in _ (by omega)]; omega) ?_
  repeat (first | refine gG ?_)
  refine x_loop [10, 11, 18, 19, 20, 21, 22, 23, 24, 25, 26, 27, 28, 29, 30, 31, 32, 33, 34, 35, 36, 37, 38, 39, 40, 41, 42, 43, 44, 45, 46, 47, 48, 49] (fun y : List En × List En × List En × List En => [(10, .c (.lit (.int .i64 (y.2.1.length : Nat)))), (11, .c (.lit (.int .i64 (y.2.2.1.length : Nat))))]) (fun y => [.row w 40 4 n ((y.1 ++ (y.2.1 ++ (y.2.2.1 ++ y.2.2.2))).flatMap En.ts)])
    (fun y => y.1 ++ (y.2.2.1 ++ (y.2.1 ++ y.2.2.2)) = Tg ∧ y.1.length + y.2.1.length = X.length + A.length ∧ 0 < y.2.1.length ∧ 0 < y.2.2.1.length ∧ (y.1 ++ (y.2.1 ++ (y.2.2.1 ++ y.2.2.2))).length = n) (fun y => y.2.1.length + y.2.2.1.length) (X, A, B, Z) ⟨hT, rfl, ha, hbb, hn⟩ ⟨rfl, rfl, trivial⟩ rfl ?_
  rintro ⟨X1, P, Q, Z1⟩ ⟨hI, hm, hp, hq, hln⟩
  dsimp only at hI hm hp hq hln ⊢
  have hln2 : X1.length + P.length + Q.length + Z1.length = n := by rw [← hln]; simp only [List.length_append]; omega
  clear hT hn
  repeat (first | refine gG ?_)
  refine x_cond rfl (fun hc => ?_) (fun hc => ?_)
  · have hne : P.length ≠ Q.length := by
      intro e
      rw [e] at hc
      simp at hc
    clear hc
    by_cases hlt : Q.length < P.length
    · obtain ⟨P1, P2, rfl, hP1⟩ := split_at (A := P) (n := Q.length) (by omega)
      rw [List.length_append] at hm hp hlt hln2
      have d1 : decide (((Q.length : Nat) : Int) < (((P1 ++ P2).length : Nat) : Int)) = true := decide_eq_true (by rw [List.length_append]; omega)
      have hsw := swR_ag w n X1 P1 P2 Q Z1 hP1 (by rw [← hln]; simp) hb f cap
      rw [show X1.length + P1.length + P2.length = X.length + A.length by omega, hP1] at hsw
      rw [List.append_assoc]
      repeat (first | refine gG ?_)
      refine lo_sub rfl rfl (r := ((X1.length : Nat) : Int)) (by rw [IntWalk.i64_in _ (by rw [List.length_append]; omega)]; rw [List.length_append]; omega) ?_
      repeat (first | refine gG ?_)
      refine zCallG [0] hsw ?_
      rintro _ _ ⟨rfl, rfl⟩
      refine ⟨_, _, re_refl, rfl, rfl, ?_⟩
      repeat (first | refine gG ?_)
      refine lo_sub rfl rfl (r := ((P2.length : Nat) : Int)) (by rw [IntWalk.i64_in _ (by rw [List.length_append]; omega)]; rw [List.length_append]; omega) ?_
      repeat (first | refine gG ?_)
      exact ⟨(X1 ++ Q, P2, P1, Z1), ⟨by rw [← hI]; simp, by dsimp only; rw [List.length_append]; omega, by dsimp only; omega, by dsimp only; omega, by simp only [List.length_append]; omega⟩, by simp only [List.length_append]; omega, x_wkd 1 ⟨rfl, by rw [hP1]; rfl, trivial⟩ (by dsimp only; rw [List.append_assoc]; rfl) (by repeat (first | exact ag_refl | refine ag_upd rfl ?_ | refine ag_at rfl rfl ?_))⟩
    · obtain ⟨Q1, Q2, rfl, hQ1⟩ := split_at (A := Q) (n := Q.length - P.length) (by omega)
      rw [List.length_append] at hq hlt hln2 hQ1 hne
      have d1 : decide ((((Q1 ++ Q2).length : Nat) : Int) < ((P.length : Nat) : Int)) = false := decide_eq_false (by rw [List.length_append]; omega)
      have hQ2 : P.length = Q2.length := by omega
      have hsw := swR_ag w n X1 P Q1 Q2 Z1 hQ2 (by rw [← hln]; simp) hb f cap
      rw [show X1 ++ (P ++ (Q1 ++ Q2 ++ Z1)) = X1 ++ (P ++ (Q1 ++ (Q2 ++ Z1))) by simp]
      repeat (first | refine gG ?_)
      refine lo_sub rfl rfl (r := ((X1.length : Nat) : Int)) (by rw [IntWalk.i64_in _ (by omega)]; omega) ?_
      repeat (first | refine gG ?_)
      refine zAn (a := X.length + A.length) (b := (Q1 ++ Q2).length) ?_ (hb := by rw [List.length_append]; omega)
      repeat (first | refine gG ?_)
      refine lo_sub rfl rfl (r := ((X1.length + P.length + Q1.length : Nat) : Int)) (by rw [IntWalk.i64_in _ (by rw [List.length_append]; omega)]; rw [List.length_append]; omega) ?_
      repeat (first | refine gG ?_)
      refine zCallG [0] hsw ?_
      rintro _ _ ⟨rfl, rfl⟩
      refine ⟨_, _, re_refl, rfl, rfl, ?_⟩
      repeat (first | refine gG ?_)
      refine lo_sub rfl rfl (r := ((Q1.length : Nat) : Int)) (by rw [IntWalk.i64_in _ (by rw [List.length_append]; omega)]; rw [List.length_append]; omega) ?_
      repeat (first | refine gG ?_)
      exact ⟨(X1, Q2, Q1, P ++ Z1), ⟨by rw [← hI]; simp, by dsimp only; omega, by dsimp only; omega, by dsimp only; omega, by simp only [List.length_append]; omega⟩, by simp only [List.length_append]; omega, x_wkd 1 ⟨by rw [hQ2]; rfl, rfl, trivial⟩ rfl (by repeat (first | exact ag_refl | refine ag_upd rfl ?_ | refine ag_at rfl rfl ?_))⟩
  · have he : P.length = Q.length := by
      by_cases e : P.length = Q.length
      · exact e
      · exfalso
        have : decide (((P.length : Nat) : Int) = ((Q.length : Nat) : Int)) = false := decide_eq_false (by omega)
        rw [this] at hc
        cases hc
    clear hc
    have hsw := swR_ag w n X1 P [] Q Z1 he (by rw [← hln]; simp) hb f cap
    simp only [List.nil_append, List.length_nil, Nat.add_zero] at hsw
    rw [hI, hm] at hsw
    repeat (first | refine gG ?_)
    refine lo_sub rfl rfl (r := ((X1.length : Nat) : Int)) (by rw [IntWalk.i64_in _ (by omega)]; omega) ?_
    repeat (first | refine gG ?_)
    refine zCallG [0] hsw ?_
    rintro _ _ ⟨rfl, rfl⟩
    refine ⟨_, _, re_refl, rfl, rfl, ?_⟩
    repeat (first | refine gG ?_)
    refine zG (vs := []) ?_
    exact ⟨rfl, rfl⟩
end Go.Proofs.YtbfomgchjlkopaaDoor
namespace Go.Proofs.YtbfomgchjlkopaaDoor
open Go.RowKit
abbrev TE := En × Nat
def fsts (l : List TE) : List En := l.map (·.1)
theorem fsts_app (a b : List TE) : fsts (a ++ b) = fsts a ++ fsts b := by simp [fsts]
theorem fsts_cons (a : TE) (b : List TE) : fsts (a :: b) = a.1 :: fsts b := rfl
theorem fsts_len (a : List TE) : (fsts a).length = a.length := by simp [fsts]
theorem fsts_nil : fsts [] = [] := rfl
/-- what the comparison says of entries that fit -/
def CmpOk (ok : En → Prop) (f : FuncId) (cap : List T) : Prop := ∀ a b, ok a → ok b → AF Tryd.prog f (.agg a.ts :: .agg b.ts :: cap) (· = .lit (.int .i64 (enC a b)))
/-- the row while one element sinks -/
def inR (X : List En) (C : List TE) (x : TE) (p : Nat) (R : List En) : List En := X ++ (fsts (C.take p) ++ x.1 :: (fsts (C.drop p) ++ R))
theorem inR_at {X : List En} {C : List TE} {x : TE} {p : Nat} {R : List En} (h : p ≤ C.length) : (inR X C x p R)[X.length + p]? = some x.1 := by
  unfold inR
  rw [← List.append_assoc]
  exact get_mid (by rw [List.length_append, fsts_len, List.length_take]; omega)
theorem inR_form {X : List En} {C : List TE} {x : TE} {p : Nat} {R : List En} (h : p < C.length) : inR X C x (p + 1) R = (X ++ fsts (C.take p)) ++ (C[p]).1 :: x.1 :: (fsts (C.drop (p + 1)) ++ R) := by
  unfold inR
  rw [List.take_succ_eq_append_getElem h, fsts_app]
  simp [fsts]
theorem inR_prev {X : List En} {C : List TE} {x : TE} {p : Nat} {R : List En} (h : p < C.length) : (inR X C x (p + 1) R)[X.length + p]? = some (C[p]).1 := by
  rw [inR_form h]
  exact get_mid (by rw [List.length_append, fsts_len, List.length_take]; omega)
theorem inR_swap {X : List En} {C : List TE} {x : TE} {p : Nat} {R : List En} (h : p < C.length) : ((inR X C x (p + 1) R).set (X.length + (p + 1)) (C[p]).1).set (X.length + p) x.1 = inR X C x p R := by
  rw [inR_form h]
  have e := swap_near (P := X ++ fsts (C.take p)) (R := fsts (C.drop (p + 1)) ++ R) (x := (C[p]).1) (y := x.1) (i := X.length + p) (j := X.length + p + 1) (by rw [List.length_append, fsts_len, List.length_take]; omega) (by rw [List.length_append, fsts_len, List.length_take]; omega)
  rw [show X.length + (p + 1) = X.length + p + 1 by omega, List.set_comm _ _ (by omega), e]
  unfold inR
  rw [List.drop_eq_getElem_cons h]
  simp only [fsts, List.map_cons, List.append_assoc, List.cons_append]
theorem inR_len {X : List En} {C : List TE} {x : TE} {p : Nat} {R : List En} : (inR X C x p R).length = X.length + C.length + 1 + R.length := by
  unfold inR
  simp only [List.length_append, List.length_cons, fsts_len, List.length_take, List.length_drop]
  omega
theorem inR_top {X : List En} {C : List TE} {x : TE} {R : List En} : inR X C x C.length R = X ++ (fsts C ++ x.1 :: R) := by
  unfold inR
  rw [List.take_length, List.drop_length]
  simp [fsts]
theorem inR_end {X : List En} {C : List TE} {x : TE} {p : Nat} {R : List En} : inR X C x p R = X ++ (fsts (C.take p ++ x :: C.drop p) ++ R) := by
  unfold inR
  simp [fsts]
set_option maxRecDepth 100000 in
set_option maxHeartbeats 8000000 in
theorem inS_ag (w : Value) (n : Nat) (X Z : List En) (A : List TE) (ok : En → Prop) (hA : A.Pairwise (fun x y => x.2 < y.2)) (hok : ∀ e ∈ A, ok e.1) (hn : (X ++ (fsts A ++ Z)).length = n) (hb : n ≤ 2097152) (f : FuncId) (cap : List T) (hcm : CmpOk ok f cap) :
    AG Tryd.prog 64 [.own 0 w, .c (.lit (.int .i64 (X.length : Nat))), .c (.lit (.int .i64 ((X.length + A.length : Nat) : Int))), .c (.fn (.func f) cap)] [.row w 40 4 n ((X ++ (fsts A ++ Z)).flatMap En.ts)] (fun r hs => r = .tup [] ∧ ∃ C : List TE, C.Perm A ∧ C.Pairwise (SR enC) ∧ hs = [.row w 40 4 n ((X ++ (fsts C ++ Z)).flatMap En.ts)]) := by
  have hle : X.length + A.length + Z.length = n := by rw [← hn]; simp only [List.length_append, fsts_len]; omega
  have hst : fsts (A.take 1) ++ (fsts (A.drop 1) ++ Z) = fsts A ++ Z := by rw [← List.append_assoc, ← fsts_app, List.take_append_drop]
  refine ag_enter (1) tok Tryd.func64 Tryd.ntmps64 Tryd.results64 rfl (by kernel_rfl) rfl fun F => ?_
  repeat (first | refine gG ?_)
  refine x_loop [8, 9, 12, 13, 14, 15, 16, 17, 18, 19, 20, 21, 22, 23, 24, 25, 26, 27, 28, 29, 30, 31, 32, 33, 34, 35, 36, 37, 38, 39, 40, 41, 42, 43, 44, 45, 46, 47, 48, 49, 50, 51, 52] (fun y : Nat × List TE => [(8, .c (.lit (.int .i64 ((X.length + y.1 : Nat) : Int))))]) (fun y => [.row w 40 4 n ((X ++ (fsts y.2 ++ (fsts (A.drop y.1) ++ Z))).flatMap En.ts)])
    (fun y => 1 ≤ y.1 ∧ y.2.Perm (A.take y.1) ∧ y.2.Pairwise (SR enC)) (fun y => A.length + 1 - y.1) (1, A.take 1) ⟨Nat.le_refl _, List.Perm.refl _, by
      cases A with
      | nil => exact List.Pairwise.nil
      | cons a A => simp⟩ ⟨rfl, trivial⟩ (by dsimp only; rw [hst]) ?_
  rintro ⟨q, C⟩ ⟨hq1, hC1, hC2⟩
  dsimp only at hq1 hC1 hC2 ⊢
  clear hst
  repeat (first | refine gG ?_)
  refine x_cond rfl (fun hc => ?_) (fun hc => ?_)
  · have hq : q < A.length := by
      have := of_decide_eq_true hc
      omega
    clear hc
    have hlC : C.length = q := by rw [hC1.length_eq, List.length_take]; omega
    have hd := List.drop_eq_getElem_cons hq
    have htl : TagLt C [A[q]] := by
      intro y hy z hz
      rw [List.mem_singleton] at hz
      subst hz
      obtain ⟨i, hi, rfl⟩ := List.getElem_of_mem (hC1.mem_iff.1 hy)
      rw [List.length_take] at hi
      rw [List.getElem_take]
      exact List.pairwise_iff_getElem.1 hA i q (by omega) hq (by omega)
    have hokC : ∀ e ∈ C, ok e.1 := fun e he => hok e (List.mem_of_mem_take (hC1.mem_iff.1 he))
    have hokx : ok (A[q]).1 := hok _ (List.getElem_mem _)
    have hnx : A.take (q + 1) = A.take q ++ [A[q]] := List.take_succ_eq_append_getElem hq
    have hRl : (fsts (A.drop (q + 1)) ++ Z).length + q + 1 + X.length = n := by rw [List.length_append, fsts_len, List.length_drop]; omega
    rw [hd, fsts_cons]
    generalize hxe : A[q] = x at *
    rw [show fsts C ++ (x.1 :: fsts (A.drop (q + 1)) ++ Z) = fsts C ++ x.1 :: (fsts (A.drop (q + 1)) ++ Z) by simp, ← inR_top]
    generalize hRe : fsts (A.drop (q + 1)) ++ Z = R at *
    repeat (first | refine gG ?_)
    refine x_loop [9, 18, 19, 20, 21, 22, 23, 24, 25, 26, 27, 28, 29, 30, 31, 32, 33, 34, 35, 36, 37, 38, 39, 40, 41, 42, 43, 44, 45, 46, 47, 48, 49, 50, 51, 52] (fun p : Nat => [(9, .c (.lit (.int .i64 ((X.length + p : Nat) : Int))))]) (fun p => [.row w 40 4 n ((inR X C x p R).flatMap En.ts)]) (fun p => p ≤ q ∧ ∀ (k : Nat) (hk : k < C.length), p ≤ k → enC x.1 (C[k]).1 < 0) (fun p => p) q ⟨Nat.le_refl _, fun k hk h => by omega⟩ ⟨rfl, trivial⟩ (by rw [hlC]) ?_
    rintro p ⟨hp, hI⟩
    have hlr := inR_len (X := X) (C := C) (x := x) (p := p) (R := R)
    have done : ∀ (hno : ∀ (k : Nat) (hk : k < C.length), k < p → ¬ enC x.1 (C[k]).1 < 0), ∃ C2 : List TE, C2.Perm (A.take (q + 1)) ∧ C2.Pairwise (SR enC) ∧ inR X C x p R = X ++ (fsts C2 ++ (fsts (A.drop (q + 1)) ++ Z)) := fun hno => by
      obtain ⟨g1, g2⟩ := merge_one_right enC_ok hC2 htl (i := p) hno hI
      exact ⟨_, by rw [hnx]; exact g1.trans (hC1.append_right _), g2, by rw [inR_end, hRe]⟩
    cases p with
    | zero =>
      obtain ⟨C2, g1, g2, g3⟩ := done (fun k hk h => by omega)
      have d0 : decide (((X.length : Nat) : Int) < ((X.length + 0 : Nat) : Int)) = false := decide_eq_false (by omega)
      rw [g3]
      clear done
      repeat (first | refine gG ?_)
      refine ac_draw [1, 1, 1, 1, 1, 1, 1, 1, 1, 1, 1, 1, 1, 1, 1, 1, 1] [0, 1, 2, 3, 4, 5, 6, 7, 8, 9, 10, 11, 12, 13, 14, 15, 16] (by kernel_rfl) (by kernel_rfl) ?_
      refine gW ?_
      refine w_nil ?_
      repeat (first | refine gG ?_)
      exact ⟨(q + 1, C2), ⟨by omega, g1, g2⟩, by dsimp only; omega, x_wkd 1 ⟨rfl, trivial⟩ rfl (by repeat (first | exact ag_refl | refine ag_upd rfl ?_ | refine ag_at rfl rfl ?_))⟩
    | succ p =>
      have hpC : p < C.length := by omega
      have d0 : decide (((X.length : Nat) : Int) < ((X.length + (p + 1) : Nat) : Int)) = true := decide_eq_true (by omega)
      have ea := En.at (inR_at (X := X) (C := C) (x := x) (p := p + 1) (R := R) (by omega))
      have eb := En.at (inR_prev (X := X) (C := C) (x := x) (R := R) hpC)
      have hcp := hcm x.1 (C[p]).1 hokx (hokC _ (List.getElem_mem _))
      have hsw := inR_swap (X := X) (x := x) (R := R) hpC
      have s1 : spl ((inR X C x (p + 1) R).flatMap En.ts) ((X.length + (p + 1)) * 4) (En.ts (C[p]).1) = ((inR X C x (p + 1) R).set (X.length + (p + 1)) (C[p]).1).flatMap En.ts := en_one (by omega) rfl
      have s2 : spl (((inR X C x (p + 1) R).set (X.length + (p + 1)) (C[p]).1).flatMap En.ts) ((X.length + p) * 4) (En.ts x.1) = (inR X C x p R).flatMap En.ts := en_one (by rw [List.length_set]; omega) hsw
      have b1 : (X.length + (p + 1)) * 4 + 4 ≤ ((inR X C x (p + 1) R).flatMap En.ts).length := by rw [en_len]; omega
      have b2 : (X.length + p) * 4 + 4 ≤ (((inR X C x (p + 1) R).set (X.length + (p + 1)) (C[p]).1).flatMap En.ts).length := by rw [en_len, List.length_set]; omega
      have hja : X.length + (p + 1) < n := by omega
      have hjb : X.length + p < n := by omega
      cases hcf : decide (enC x.1 (C[p]).1 < 0)
      · obtain ⟨C2, g1, g2, g3⟩ := done (fun k hk h hk2 => by
          have := pw_le enC_ok hC2 (i := k) (j := p) (by omega) hpC
          exact of_decide_eq_false hcf (lt_of_lt_le enC_ok hk2 this))
        clear done hI hsw s1 s2 b1 b2
        generalize enC x.1 (C[p]).1 = cv at *
        generalize (C[p]).1 = y at *
        rw [g3] at ea eb ⊢
        repeat (first | refine gG ?_)
        refine ac_draw [1, 1, 1, 1, 1, 1, 1, 1, 1, 1, 1, 1, 1, 1, 1, 1, 1] [0, 1, 2, 3, 4, 5, 6, 7, 8, 9, 10, 11, 12, 13, 14, 15, 16] (by kernel_rfl) (by kernel_rfl) ?_
        refine gW ?_
        try (first | (apply w_un; (focus exact rfl); (focus exact rfl); (focus exact rfl); (focus exact rfl)) | (apply w_no; (focus exact rfl); (focus exact rfl); (focus exact rfl); (focus exact rfl); focus (first | rfl | assumption | exact neg_t (by assumption) | exact neg_f (by assumption))) | (apply w_qg; (focus exact rfl); (focus exact rfl); (focus exact rfl); (focus exact rfl); (focus (first | rfl | assumption | exact neg_t (by assumption) | exact neg_f (by assumption))); (focus (intro _; (refine zIxo (X.length + (p + 1)) hja ?_); exact det_refl))))
        (first | (apply w_un; (focus exact rfl); (focus exact rfl); (focus exact rfl); (focus exact rfl)) | (apply w_no; (focus exact rfl); (focus exact rfl); (focus exact rfl); (focus exact rfl); focus (first | rfl | assumption | exact neg_t (by assumption) | exact neg_f (by assumption))) | (apply w_qg; (focus exact rfl); (focus exact rfl); (focus exact rfl); (focus exact rfl); (focus (first | rfl | assumption | exact neg_t (by assumption) | exact neg_f (by assumption))); (focus (intro _; (refine zElo ea (En.ts_len _) ?_); exact det_refl))))
        try refine gW ?_
        try (first | (apply w_un; (focus exact rfl); (focus exact rfl); (focus exact rfl); (focus exact rfl)) | (apply w_no; (focus exact rfl); (focus exact rfl); (focus exact rfl); (focus exact rfl); focus (first | rfl | assumption | exact neg_t (by assumption) | exact neg_f (by assumption))) | (apply w_qg; (focus exact rfl); (focus exact rfl); (focus exact rfl); (focus exact rfl); (focus (first | rfl | assumption | exact neg_t (by assumption) | exact neg_f (by assumption))); (focus (intro _; (refine lo_sub rfl rfl (r := ((X.length + p : Nat) : Int)) (by rw [IntWalk.i64_in _ (by omega)]; omega) ?_); exact det_refl))))
        (first | (apply w_un; (focus exact rfl); (focus exact rfl); (focus exact rfl); (focus exact rfl)) | (apply w_no; (focus exact rfl); (focus exact rfl); (focus exact rfl); (focus exact rfl); focus (first | rfl | assumption | exact neg_t (by assumption) | exact neg_f (by assumption))) | (apply w_qg; (focus exact rfl); (focus exact rfl); (focus exact rfl); (focus exact rfl); (focus (first | rfl | assumption | exact neg_t (by assumption) | exact neg_f (by assumption))); (focus (intro _; (refine zIxo (X.length + p) hjb ?_); exact det_refl))))
        (first | (apply w_un; (focus exact rfl); (focus exact rfl); (focus exact rfl); (focus exact rfl)) | (apply w_no; (focus exact rfl); (focus exact rfl); (focus exact rfl); (focus exact rfl); focus (first | rfl | assumption | exact neg_t (by assumption) | exact neg_f (by assumption))) | (apply w_qg; (focus exact rfl); (focus exact rfl); (focus exact rfl); (focus exact rfl); (focus (first | rfl | assumption | exact neg_t (by assumption) | exact neg_f (by assumption))); (focus (intro _; (refine zElo eb (En.ts_len _) ?_); exact det_refl))))
        (first | (apply w_un; (focus exact rfl); (focus exact rfl); (focus exact rfl); (focus exact rfl)) | (apply w_no; (focus exact rfl); (focus exact rfl); (focus exact rfl); (focus exact rfl); focus (first | rfl | assumption | exact neg_t (by assumption) | exact neg_f (by assumption))) | (apply w_qg; (focus exact rfl); (focus exact rfl); (focus exact rfl); (focus exact rfl); (focus (first | rfl | assumption | exact neg_t (by assumption) | exact neg_f (by assumption))); (focus (intro _; (refine zCallc hcp ?_ (hx := rzs_cons rz_c (rzs_cons rz_c rzs_self)); rintro _ rfl); exact det_refl))))
        try refine gW ?_
        refine w_nil ?_
        repeat (first | refine gG ?_)
        exact ⟨(q + 1, C2), ⟨by omega, g1, g2⟩, by dsimp only; omega, x_wkd 1 ⟨rfl, trivial⟩ rfl (by repeat (first | exact ag_refl | refine ag_upd rfl ?_ | refine ag_at rfl rfl ?_))⟩
      · have hI2 : ∀ (k : Nat) (hk : k < C.length), p ≤ k → enC x.1 (C[k]).1 < 0 := fun k hk h => by
          by_cases e : k = p
          · subst e; exact of_decide_eq_true hcf
          · exact hI k hk (by omega)
        clear done hsw hI
        generalize enC x.1 (C[p]).1 = cv at *
        generalize (inR X C x (p + 1) R).set (X.length + (p + 1)) (C[p]).1 = L1 at *
        generalize (C[p]).1 = y at *
        repeat (first | refine gG ?_)
        refine ac_draw [1, 1, 1, 1, 1, 1, 1, 1, 1, 1, 1, 1, 1, 1, 1, 1, 1] [0, 1, 2, 3, 4, 5, 6, 7, 8, 9, 10, 11, 12, 13, 14, 15, 16] (by kernel_rfl) (by kernel_rfl) ?_
        refine gW ?_
        try (first | (apply w_un; (focus exact rfl); (focus exact rfl); (focus exact rfl); (focus exact rfl)) | (apply w_no; (focus exact rfl); (focus exact rfl); (focus exact rfl); (focus exact rfl); focus (first | rfl | assumption | exact neg_t (by assumption) | exact neg_f (by assumption))) | (apply w_qg; (focus exact rfl); (focus exact rfl); (focus exact rfl); (focus exact rfl); (focus (first | rfl | assumption | exact neg_t (by assumption) | exact neg_f (by assumption))); (focus (intro _; (refine zIxo (X.length + (p + 1)) hja ?_); exact det_refl))))
        (first | (apply w_un; (focus exact rfl); (focus exact rfl); (focus exact rfl); (focus exact rfl)) | (apply w_no; (focus exact rfl); (focus exact rfl); (focus exact rfl); (focus exact rfl); focus (first | rfl | assumption | exact neg_t (by assumption) | exact neg_f (by assumption))) | (apply w_qg; (focus exact rfl); (focus exact rfl); (focus exact rfl); (focus exact rfl); (focus (first | rfl | assumption | exact neg_t (by assumption) | exact neg_f (by assumption))); (focus (intro _; (refine zElo ea (En.ts_len _) ?_); exact det_refl))))
        try refine gW ?_
        try (first | (apply w_un; (focus exact rfl); (focus exact rfl); (focus exact rfl); (focus exact rfl)) | (apply w_no; (focus exact rfl); (focus exact rfl); (focus exact rfl); (focus exact rfl); focus (first | rfl | assumption | exact neg_t (by assumption) | exact neg_f (by assumption))) | (apply w_qg; (focus exact rfl); (focus exact rfl); (focus exact rfl); (focus exact rfl); (focus (first | rfl | assumption | exact neg_t (by assumption) | exact neg_f (by assumption))); (focus (intro _; (refine lo_sub rfl rfl (r := ((X.length + p : Nat) : Int)) (by rw [IntWalk.i64_in _ (by omega)]; omega) ?_); exact det_refl))))
        (first | (apply w_un; (focus exact rfl); (focus exact rfl); (focus exact rfl); (focus exact rfl)) | (apply w_no; (focus exact rfl); (focus exact rfl); (focus exact rfl); (focus exact rfl); focus (first | rfl | assumption | exact neg_t (by assumption) | exact neg_f (by assumption))) | (apply w_qg; (focus exact rfl); (focus exact rfl); (focus exact rfl); (focus exact rfl); (focus (first | rfl | assumption | exact neg_t (by assumption) | exact neg_f (by assumption))); (focus (intro _; (refine zIxo (X.length + p) hjb ?_); exact det_refl))))
        (first | (apply w_un; (focus exact rfl); (focus exact rfl); (focus exact rfl); (focus exact rfl)) | (apply w_no; (focus exact rfl); (focus exact rfl); (focus exact rfl); (focus exact rfl); focus (first | rfl | assumption | exact neg_t (by assumption) | exact neg_f (by assumption))) | (apply w_qg; (focus exact rfl); (focus exact rfl); (focus exact rfl); (focus exact rfl); (focus (first | rfl | assumption | exact neg_t (by assumption) | exact neg_f (by assumption))); (focus (intro _; (refine zElo eb (En.ts_len _) ?_); exact det_refl))))
        (first | (apply w_un; (focus exact rfl); (focus exact rfl); (focus exact rfl); (focus exact rfl)) | (apply w_no; (focus exact rfl); (focus exact rfl); (focus exact rfl); (focus exact rfl); focus (first | rfl | assumption | exact neg_t (by assumption) | exact neg_f (by assumption))) | (apply w_qg; (focus exact rfl); (focus exact rfl); (focus exact rfl); (focus exact rfl); (focus (first | rfl | assumption | exact neg_t (by assumption) | exact neg_f (by assumption))); (focus (intro _; (refine zCallc hcp ?_ (hx := rzs_cons rz_c (rzs_cons rz_c rzs_self)); rintro _ rfl); exact det_refl))))
        try refine gW ?_
        refine w_nil ?_
        repeat (first | refine gG ?_)
        refine ac_draw [1, 1, 0, 0, 0, 1, 1, 1, 1, 1, 1, 1, 1, 1, 1, 2, 1, 2] [0, 1, 2, 3, 4, 5, 6, 7, 8, 9, 10, 11, 12, 13, 14, 15, 16, 17] (by kernel_rfl) (by kernel_rfl) ?_
        refine gW ?_
        apply w_p; (focus exact rfl); (focus exact rfl); focus (intro _; (refine lo_sub rfl rfl (r := ((X.length + p : Nat) : Int)) (by rw [IntWalk.i64_in _ (by omega)]; omega) ?_); exact det_refl)
        refine gW ?_
        apply w_q; (focus exact rfl); (focus exact rfl); focus (intro _; (refine lo_sub rfl rfl (r := ((X.length + p : Nat) : Int)) (by rw [IntWalk.i64_in _ (by omega)]; omega) ?_); exact det_refl)
        apply w_q; (focus exact rfl); (focus exact rfl); focus (intro _; (refine zIxo (X.length + p) hjb ?_); exact det_refl)
        apply w_q; (focus exact rfl); (focus exact rfl); focus (intro _; (refine zElo eb (En.ts_len _) ?_); exact det_refl)
        refine gW ?_
        apply w_q; (focus exact rfl); (focus exact rfl); focus (intro _; (refine zIxo (X.length + (p + 1)) hja ?_); exact det_refl)
        apply w_q; (focus exact rfl); (focus exact rfl); focus (intro _; (refine zElo ea (En.ts_len _) ?_); exact det_refl)
        apply w_q; (focus exact rfl); (focus exact rfl); focus (intro _; (refine zIxo (X.length + (p + 1)) hja ?_); exact det_refl)
        apply w_l; (focus exact rfl); (focus exact rfl); (refine zSe s1 b1 ?_)
        apply w_q; (focus exact rfl); (focus exact rfl); focus (intro _; (refine zIxo (X.length + p) hjb ?_); exact det_refl)
        apply w_l; (focus exact rfl); (focus exact rfl); (refine zSe s2 b2 ?_)
        refine w_nil ?_
        repeat (first | refine gG ?_)
        refine lo_sub rfl rfl (r := ((X.length + p : Nat) : Int)) (by rw [IntWalk.i64_in _ (by omega)]; omega) ?_
        repeat (first | refine gG ?_)
        exact ⟨p, ⟨by omega, hI2⟩, by omega, x_wkd 1 ⟨rfl, trivial⟩ rfl (by repeat (first | exact ag_refl | refine ag_upd rfl ?_ | refine ag_at rfl rfl ?_))⟩
  · have hq : A.length ≤ q := by
      have := of_decide_eq_false hc
      omega
    clear hc
    rw [List.take_of_length_le hq] at hC1
    rw [List.drop_of_length_le hq, fsts_nil, List.nil_append]
    repeat (first | refine gG ?_)
    refine zG (vs := []) ?_
    exact ⟨rfl, C, hC1, hC2, rfl⟩
end Go.Proofs.YtbfomgchjlkopaaDoor
namespace Go.Proofs.YtbfomgchjlkopaaDoor
open Go.RowKit
theorem u64nat {s : Nat} (h : s ≤ 4611686018427387904) : IntKind.u64.wrap ((s : Nat) : Int) = ((s : Nat) : Int) := by
  simp [IntKind.wrap, IntKind.bits, IntKind.signed]
  omega
theorem i64nat {s : Nat} (h : s ≤ 4611686018427387904) : IntKind.i64.wrap ((s : Nat) : Int) = ((s : Nat) : Int) := IntWalk.i64_in _ (by omega)
theorem half_nat (s : Nat) : (((s : Nat) : Int)).fdiv (2 ^ (min (1 : Int).toNat IntKind.u64.bits)) = ((s / 2 : Nat) : Int) := by
  rw [show (2 : Int) ^ (min (1 : Int).toNat IntKind.u64.bits) = ((2 : Nat) : Int) by decide, Int.fdiv_eq_ediv_of_nonneg _ (by decide)]
  rfl
theorem inR_form' {X : List En} {C : List TE} {x : TE} {p : Nat} {R : List En} (h : p < C.length) : inR X C x p R = (X ++ fsts (C.take p)) ++ x.1 :: (C[p]).1 :: (fsts (C.drop (p + 1)) ++ R) := by
  unfold inR
  rw [List.drop_eq_getElem_cons h]
  simp only [fsts, List.map_cons, List.append_assoc, List.cons_append]
theorem inR_swap' {X : List En} {C : List TE} {x : TE} {p : Nat} {R : List En} (h : p < C.length) : ((inR X C x p R).set (X.length + p) (C[p]).1).set (X.length + (p + 1)) x.1 = inR X C x (p + 1) R := by
  rw [inR_form' h, swap_near (P := X ++ fsts (C.take p)) (R := fsts (C.drop (p + 1)) ++ R) (i := X.length + p) (j := X.length + (p + 1)) (by rw [List.length_append, fsts_len, List.length_take]; omega) (by rw [List.length_append, fsts_len, List.length_take]; omega), inR_form h]
theorem inR_next {X : List En} {C : List TE} {x : TE} {p : Nat} {R : List En} (h : p < C.length) : (inR X C x p R)[X.length + (p + 1)]? = some (C[p]).1 := by
  rw [inR_form' h, show X ++ fsts (C.take p) ++ x.1 :: (C[p]).1 :: (fsts (C.drop (p + 1)) ++ R) = (X ++ fsts (C.take p) ++ [x.1]) ++ (C[p]).1 :: (fsts (C.drop (p + 1)) ++ R) by simp]
  exact get_mid (by simp only [List.length_append, fsts_len, List.length_take, List.length_cons, List.length_nil]; omega)
theorem inR_zero {X : List En} {C : List TE} {x : TE} {R : List En} : inR X C x 0 R = X ++ (x.1 :: (fsts C ++ R)) := by
  unfold inR
  simp [fsts]
theorem at_mid {X : List En} {C : List TE} {R : List En} {k : Nat} (h : k < C.length) : (X ++ (fsts C ++ R))[X.length + k]? = some (C[k]).1 := by
  rw [List.getElem?_append_right (by omega), List.getElem?_append_left (by rw [fsts_len]; omega)]
  simp [fsts, h]
theorem inR0_at {X : List En} {C : List TE} {x : TE} {R : List En} {k : Nat} (h : k < C.length) : (inR X C x 0 R)[X.length + 1 + k]? = some (C[k]).1 := by
  rw [inR_zero, show X ++ (x.1 :: (fsts C ++ R)) = (X ++ [x.1]) ++ (fsts C ++ R) by simp]
  have := at_mid (X := X ++ [x.1]) (C := C) (R := R) (k := k) h
  rwa [List.length_append, List.length_singleton] at this
theorem inR0_x {X : List En} {C : List TE} {x : TE} {R : List En} : (inR X C x 0 R)[X.length]? = some x.1 := inR_at (p := 0) (Nat.zero_le _)
theorem inRt_at {X : List En} {C : List TE} {x : TE} {R : List En} {k : Nat} (h : k < C.length) : (inR X C x C.length R)[X.length + k]? = some (C[k]).1 := by
  rw [inR_top]
  exact at_mid h
def MergeR (w : Value) (n : Nat) (X : List En) (A B : List TE) (Z : List En) (r : AV) (hs : List Blk) : Prop := r = .tup [] ∧ ∃ C : List TE, C.Perm (A ++ B) ∧ C.Pairwise (SR enC) ∧ hs = [.row w 40 4 n ((X ++ (fsts C ++ Z)).flatMap En.ts)]
set_option maxRecDepth 100000 in
set_option maxHeartbeats 8000000 in
theorem sym1_ag (w : Value) (n : Nat) (X Z : List En) (x : TE) (B : List TE) (ok : En → Prop) (hb : n ≤ 2097152) (f : FuncId) (cap : List T) (hcm : CmpOk ok f cap) (hB : B.Pairwise (SR enC)) (ht : TagLt [x] B) (hokx : ok x.1) (hok : ∀ e ∈ B, ok e.1) (hn : X.length + 1 + B.length + Z.length = n) :
    AG Tryd.prog 65 [.own 0 w, .c (.lit (.int .i64 ((X.length : Nat) : Int))), .c (.lit (.int .i64 ((X.length + 1 : Nat) : Int))), .c (.lit (.int .i64 ((X.length + 1 + B.length : Nat) : Int))), .c (.fn (.func f) cap)] [.row w 40 4 n ((inR X B x 0 Z).flatMap En.ts)] (MergeR w n X [x] B Z) := by
  refine ag_enter (1) tok Tryd.func65 Tryd.ntmps65 Tryd.results65 rfl (by kernel_rfl) rfl fun F => ?_
  repeat (first | refine gG ?_)
  refine lo_sub rfl rfl (r := 1) (by rw [IntWalk.i64_in _ (by omega)]; omega) ?_
  repeat (first | refine gG ?_)
  refine x_loop [10, 11, 12, 31, 32, 33, 34, 35, 36, 37, 38, 39, 40, 41, 42, 43, 44, 45, 46, 47, 48, 49, 50, 51, 52, 53] (fun y : Nat × Nat => [(10, .c (.lit (.int .i64 ((X.length + 1 + y.1 : Nat) : Int)))), (11, .c (.lit (.int .i64 ((X.length + 1 + y.2 : Nat) : Int))))]) (fun _ => [.row w 40 4 n ((inR X B x 0 Z).flatMap En.ts)])
    (fun y => y.1 ≤ y.2 ∧ y.2 ≤ B.length ∧ (∀ (k : Nat) (hk : k < B.length), k < y.1 → enC (B[k]).1 x.1 < 0) ∧ (∀ (k : Nat) (hk : k < B.length), y.2 ≤ k → ¬ enC (B[k]).1 x.1 < 0)) (fun y => y.2 - y.1) (0, B.length) ⟨Nat.zero_le _, Nat.le_refl _, fun k hk h => by omega, fun k hk h => by omega⟩ ⟨rfl, rfl, trivial⟩ rfl ?_
  rintro ⟨i, j⟩ ⟨hij, hjB, g1, g2⟩
  dsimp only at hij hjB g1 g2 ⊢
  repeat (first | refine gG ?_)
  refine x_cond rfl (fun hc => ?_) (fun hc => ?_)
  · have hlt : i < j := by
      have := of_decide_eq_true hc
      omega
    clear hc
    obtain ⟨c, hc2⟩ : ∃ c, c = (i + j) / 2 := ⟨_, rfl⟩
    have hs2 : (X.length + 1 + i + (X.length + 1 + j)) / 2 = X.length + 1 + c := by omega
    have hcB : c < B.length := by omega
    have hic : i ≤ c ∧ c < j := by omega
    have hlr := inR_len (X := X) (C := B) (x := x) (p := 0) (R := Z)
    have ea := En.at (inR0_at (X := X) (x := x) (R := Z) hcB)
    have ex := En.at (inR0_x (X := X) (C := B) (x := x) (R := Z))
    have hcp := hcm (B[c]).1 x.1 (hok _ (List.getElem_mem _)) hokx
    have hj1 : X.length + 1 + c < n := by omega
    have hj0 : X.length < n := by omega
    have hup : enC (B[c]).1 x.1 < 0 → ∀ (k : Nat) (hk : k < B.length), k < c + 1 → enC (B[k]).1 x.1 < 0 := fun h k hk hk2 => lt_of_le_lt enC_ok (pw_le enC_ok hB (i := k) (j := c) (by omega) hcB) h
    have hdn : ¬ enC (B[c]).1 x.1 < 0 → ∀ (k : Nat) (hk : k < B.length), c ≤ k → ¬ enC (B[k]).1 x.1 < 0 := fun h k hk hk2 h3 => h (lt_of_le_lt enC_ok (pw_le enC_ok hB (i := c) (j := k) hk2 hk) h3)
    generalize inR X B x 0 Z = L at *
    cases hcf : decide (enC (B[c]).1 x.1 < 0)
    · have g3 := hdn (of_decide_eq_false hcf)
      clear hdn hup g2
      generalize enC (B[c]).1 x.1 = cv at *
      generalize (B[c]).1 = y at *
      repeat (first | refine gG ?_)
      refine zAn (a := X.length + 1 + i) (b := X.length + 1 + j) ?_
      repeat (first | refine gG ?_)
      refine lo_conv tok rfl rfl rfl rfl (u64nat (s := X.length + 1 + i + (X.length + 1 + j)) (by omega)) ?_
      repeat (first | refine gG ?_)
      refine lo_shr rfl rfl (by decide) (half_nat (X.length + 1 + i + (X.length + 1 + j))) ?_
      repeat (first | refine gG ?_)
      refine lo_conv tok rfl rfl rfl rfl (r := ((X.length + 1 + c : Nat) : Int)) (by rw [i64nat (by omega), hs2]) ?_
      repeat (first | refine gG ?_)
      refine ac_draw [1, 1, 1, 1, 1, 1, 1, 1, 1, 1, 1] [0, 1, 2, 3, 4, 5, 6, 7, 8, 9, 10] (by kernel_rfl) (by kernel_rfl) ?_
      refine gW ?_
      apply w_q; (focus exact rfl); (focus exact rfl); focus (intro _; (refine zIxo (X.length + 1 + c) hj1 ?_); exact det_refl)
      apply w_q; (focus exact rfl); (focus exact rfl); focus (intro _; (refine zElo ea (En.ts_len _) ?_); exact det_refl)
      refine gW ?_
      apply w_q; (focus exact rfl); (focus exact rfl); focus (intro _; (refine zIxo X.length hj0 ?_); exact det_refl)
      apply w_q; (focus exact rfl); (focus exact rfl); focus (intro _; (refine zElo ex (En.ts_len _) ?_); exact det_refl)
      apply w_q; (focus exact rfl); (focus exact rfl); focus (intro _; (refine zCallc hcp ?_ (hx := rzs_cons rz_c (rzs_cons rz_c rzs_self)); rintro _ rfl); exact det_refl)
      refine gW ?_
      refine w_nil ?_
      repeat (first | refine gG ?_)
      exact ⟨(i, c), ⟨by dsimp only; omega, by dsimp only; omega, g1, g3⟩, by dsimp only; omega, x_wkd 1 ⟨rfl, rfl, trivial⟩ rfl (by repeat (first | exact ag_refl | refine ag_upd rfl ?_ | refine ag_at rfl rfl ?_))⟩
    · have g3 := hup (of_decide_eq_true hcf)
      clear hdn hup g1
      generalize enC (B[c]).1 x.1 = cv at *
      generalize (B[c]).1 = y at *
      repeat (first | refine gG ?_)
      refine zAn (a := X.length + 1 + i) (b := X.length + 1 + j) ?_
      repeat (first | refine gG ?_)
      refine lo_conv tok rfl rfl rfl rfl (u64nat (s := X.length + 1 + i + (X.length + 1 + j)) (by omega)) ?_
      repeat (first | refine gG ?_)
      refine lo_shr rfl rfl (by decide) (half_nat (X.length + 1 + i + (X.length + 1 + j))) ?_
      repeat (first | refine gG ?_)
      refine lo_conv tok rfl rfl rfl rfl (r := ((X.length + 1 + c : Nat) : Int)) (by rw [i64nat (by omega), hs2]) ?_
      repeat (first | refine gG ?_)
      refine ac_draw [1, 1, 1, 1, 1, 1, 1, 1, 1, 1, 1] [0, 1, 2, 3, 4, 5, 6, 7, 8, 9, 10] (by kernel_rfl) (by kernel_rfl) ?_
      refine gW ?_
      apply w_q; (focus exact rfl); (focus exact rfl); focus (intro _; (refine zIxo (X.length + 1 + c) hj1 ?_); exact det_refl)
      apply w_q; (focus exact rfl); (focus exact rfl); focus (intro _; (refine zElo ea (En.ts_len _) ?_); exact det_refl)
      refine gW ?_
      apply w_q; (focus exact rfl); (focus exact rfl); focus (intro _; (refine zIxo X.length hj0 ?_); exact det_refl)
      apply w_q; (focus exact rfl); (focus exact rfl); focus (intro _; (refine zElo ex (En.ts_len _) ?_); exact det_refl)
      apply w_q; (focus exact rfl); (focus exact rfl); focus (intro _; (refine zCallc hcp ?_ (hx := rzs_cons rz_c (rzs_cons rz_c rzs_self)); rintro _ rfl); exact det_refl)
      refine gW ?_
      refine w_nil ?_
      repeat (first | refine gG ?_)
      exact ⟨(c + 1, j), ⟨by dsimp only; omega, hjB, g3, g2⟩, by dsimp only; omega, x_wkd 1 ⟨rfl, rfl, trivial⟩ rfl (by repeat (first | exact ag_refl | refine ag_upd rfl ?_ | refine ag_at rfl rfl ?_))⟩
  have hji : j = i := by
    have := of_decide_eq_false hc
    omega
  subst hji
  clear hc hij
  obtain ⟨m1, m2⟩ := merge_one_left enC_ok hB ht g1 g2
  clear g1 g2
  repeat (first | refine gG ?_)
  refine x_loop [13, 55, 56, 57, 58, 59, 60, 61, 62, 63, 64, 65, 66, 67, 68, 69, 70, 71, 72, 73, 74, 75, 76] (fun q : Nat => [(13, .c (.lit (.int .i64 ((X.length + q : Nat) : Int))))]) (fun q => [.row w 40 4 n ((inR X B x q Z).flatMap En.ts)]) (fun q => q ≤ j) (fun q => j - q) 0 (Nat.zero_le _) ⟨rfl, trivial⟩ rfl ?_
  intro q hq
  repeat (first | refine gG ?_)
  refine lo_sub rfl rfl (r := ((X.length + j : Nat) : Int)) (by rw [IntWalk.i64_in _ (by omega)]; omega) ?_
  repeat (first | refine gG ?_)
  refine x_cond rfl (fun hc => ?_) (fun hc => ?_)
  · have hqj : q < j := by
      have := of_decide_eq_true hc
      omega
    clear hc m1 m2
    have hqB : q < B.length := by omega
    have hlr := inR_len (X := X) (C := B) (x := x) (p := q) (R := Z)
    have ea := En.at (inR_at (X := X) (C := B) (x := x) (p := q) (R := Z) (by omega))
    have eb := En.at (inR_next (X := X) (x := x) (R := Z) hqB)
    have hsw := inR_swap' (X := X) (x := x) (R := Z) hqB
    have hja : X.length + q < n := by omega
    have hjb : X.length + (q + 1) < n := by omega
    generalize inR X B x q Z = L at *
    generalize hL2 : inR X B x (q + 1) Z = L2 at *
    generalize (B[q]).1 = y at *
    have s1 : spl (L.flatMap En.ts) ((X.length + q) * 4) (En.ts y) = (L.set (X.length + q) y).flatMap En.ts := en_one (by omega) rfl
    have s2 : spl ((L.set (X.length + q) y).flatMap En.ts) ((X.length + (q + 1)) * 4) (En.ts x.1) = L2.flatMap En.ts := en_one (by rw [List.length_set]; omega) hsw
    have b1 : (X.length + q) * 4 + 4 ≤ (L.flatMap En.ts).length := by rw [en_len]; omega
    have b2 : (X.length + (q + 1)) * 4 + 4 ≤ ((L.set (X.length + q) y).flatMap En.ts).length := by rw [en_len, List.length_set]; omega
    clear hsw
    generalize L.set (X.length + q) y = L1 at *
    repeat (first | refine gG ?_)
    refine ac_draw [1, 1, 0, 0, 0, 1, 1, 1, 1, 1, 1, 1, 1, 1, 1, 2, 1, 2] [0, 1, 2, 3, 4, 5, 6, 7, 8, 9, 10, 11, 12, 13, 14, 15, 16, 17] (by kernel_rfl) (by kernel_rfl) ?_
    refine gW ?_
    apply w_q; (focus exact rfl); (focus exact rfl); focus (intro _; (refine zIxo (X.length + (q + 1)) hjb ?_); exact det_refl)
    apply w_q; (focus exact rfl); (focus exact rfl); focus (intro _; (refine zElo eb (En.ts_len _) ?_); exact det_refl)
    refine gW ?_
    apply w_q; (focus exact rfl); (focus exact rfl); focus (intro _; (refine zIxo (X.length + q) hja ?_); exact det_refl)
    apply w_q; (focus exact rfl); (focus exact rfl); focus (intro _; (refine zElo ea (En.ts_len _) ?_); exact det_refl)
    apply w_q; (focus exact rfl); (focus exact rfl); focus (intro _; (refine zIxo (X.length + q) hja ?_); exact det_refl)
    apply w_l; (focus exact rfl); (focus exact rfl); (refine zSe s1 b1 ?_)
    apply w_q; (focus exact rfl); (focus exact rfl); focus (intro _; (refine zIxo (X.length + (q + 1)) hjb ?_); exact det_refl)
    apply w_l; (focus exact rfl); (focus exact rfl); (refine zSe s2 b2 ?_)
    refine w_nil ?_
    repeat (first | refine gG ?_)
    exact ⟨q + 1, hqj, by omega, x_wkd 1 ⟨rfl, trivial⟩ (by rw [hL2]; rfl) (by repeat (first | exact ag_refl | refine ag_upd rfl ?_ | refine ag_at rfl rfl ?_))⟩
  · have hqj : q = j := by
      have := of_decide_eq_false hc
      omega
    subst hqj
    repeat (first | refine gG ?_)
    refine zG (vs := []) ?_
    exact ⟨rfl, _, m1, m2, by rw [inR_end]⟩
set_option maxRecDepth 100000 in
set_option maxHeartbeats 8000000 in
theorem sym2_ag (w : Value) (n : Nat) (X Z : List En) (y : TE) (A : List TE) (ok : En → Prop) (hb : n ≤ 2097152) (f : FuncId) (cap : List T) (hcm : CmpOk ok f cap) (hA : A.Pairwise (SR enC)) (ht : TagLt A [y]) (hoky : ok y.1) (hok : ∀ e ∈ A, ok e.1) (hA1 : A.length ≠ 1) (hn : X.length + A.length + 1 + Z.length = n) :
    AG Tryd.prog 65 [.own 0 w, .c (.lit (.int .i64 ((X.length : Nat) : Int))), .c (.lit (.int .i64 ((X.length + A.length : Nat) : Int))), .c (.lit (.int .i64 ((X.length + A.length + 1 : Nat) : Int))), .c (.fn (.func f) cap)] [.row w 40 4 n ((inR X A y A.length Z).flatMap En.ts)] (MergeR w n X A [y] Z) := by
  have d1 : decide (((A.length : Nat) : Int) = 1) = false := decide_eq_false (by omega)
  refine ag_enter (1) tok Tryd.func65 Tryd.ntmps65 Tryd.results65 rfl (by kernel_rfl) rfl fun F => ?_
  repeat (first | refine gG ?_)
  refine lo_sub rfl rfl (r := ((A.length : Nat) : Int)) (by rw [IntWalk.i64_in _ (by omega)]; omega) ?_
  repeat (first | refine gG ?_)
  refine lo_sub rfl rfl (r := 1) (by rw [IntWalk.i64_in _ (by omega)]; omega) ?_
  repeat (first | refine gG ?_)
  refine x_loop [14, 15, 16, 83, 84, 85, 86, 87, 88, 89, 90, 91, 92, 93, 94, 95, 96, 97, 98, 99, 100, 101, 102, 103, 104, 105, 106] (fun z : Nat × Nat => [(14, .c (.lit (.int .i64 ((X.length + z.1 : Nat) : Int)))), (15, .c (.lit (.int .i64 ((X.length + z.2 : Nat) : Int))))]) (fun _ => [.row w 40 4 n ((inR X A y A.length Z).flatMap En.ts)])
    (fun z => z.1 ≤ z.2 ∧ z.2 ≤ A.length ∧ (∀ (k : Nat) (hk : k < A.length), k < z.1 → ¬ enC y.1 (A[k]).1 < 0) ∧ (∀ (k : Nat) (hk : k < A.length), z.2 ≤ k → enC y.1 (A[k]).1 < 0)) (fun z => z.2 - z.1) (0, A.length) ⟨Nat.zero_le _, Nat.le_refl _, fun k hk h => by omega, fun k hk h => by omega⟩ ⟨rfl, rfl, trivial⟩ rfl ?_
  rintro ⟨i, j⟩ ⟨hij, hjB, g1, g2⟩
  dsimp only at hij hjB g1 g2 ⊢
  repeat (first | refine gG ?_)
  refine x_cond rfl (fun hc => ?_) (fun hc => ?_)
  · have hlt : i < j := by
      have := of_decide_eq_true hc
      omega
    clear hc
    obtain ⟨c, hc2⟩ : ∃ c, c = (i + j) / 2 := ⟨_, rfl⟩
    have hs2 : (X.length + i + (X.length + j)) / 2 = X.length + c := by omega
    have hcB : c < A.length := by omega
    have hic : i ≤ c ∧ c < j := by omega
    have hlr := inR_len (X := X) (C := A) (x := y) (p := A.length) (R := Z)
    have ea := En.at (inRt_at (X := X) (x := y) (R := Z) hcB)
    have ex := En.at (inR_at (X := X) (C := A) (x := y) (p := A.length) (R := Z) (Nat.le_refl _))
    have hcp := hcm y.1 (A[c]).1 hoky (hok _ (List.getElem_mem _))
    have hj1 : X.length + c < n := by omega
    have hj0 : X.length + A.length < n := by omega
    have hup : ¬ enC y.1 (A[c]).1 < 0 → ∀ (k : Nat) (hk : k < A.length), k < c + 1 → ¬ enC y.1 (A[k]).1 < 0 := fun h k hk hk2 h3 => h (lt_of_lt_le enC_ok h3 (pw_le enC_ok hA (i := k) (j := c) (by omega) hcB))
    have hdn : enC y.1 (A[c]).1 < 0 → ∀ (k : Nat) (hk : k < A.length), c ≤ k → enC y.1 (A[k]).1 < 0 := fun h k hk hk2 => lt_of_lt_le enC_ok h (pw_le enC_ok hA (i := c) (j := k) hk2 hk)
    generalize inR X A y A.length Z = L at *
    cases hcf : decide (enC y.1 (A[c]).1 < 0)
    · have g3 := hup (of_decide_eq_false hcf)
      clear hdn hup g1
      generalize enC y.1 (A[c]).1 = cv at *
      generalize (A[c]).1 = z at *
      repeat (first | refine gG ?_)
      refine zAn (a := X.length + i) (b := X.length + j) ?_
      repeat (first | refine gG ?_)
      refine lo_conv tok rfl rfl rfl rfl (u64nat (s := X.length + i + (X.length + j)) (by omega)) ?_
      repeat (first | refine gG ?_)
      refine lo_shr rfl rfl (by decide) (half_nat (X.length + i + (X.length + j))) ?_
      repeat (first | refine gG ?_)
      refine lo_conv tok rfl rfl rfl rfl (r := ((X.length + c : Nat) : Int)) (by rw [i64nat (by omega), hs2]) ?_
      repeat (first | refine gG ?_)
      refine ac_draw [1, 1, 1, 1, 1, 1, 1, 1, 1, 1, 1, 1] [0, 1, 2, 3, 4, 5, 6, 7, 8, 9, 10, 11] (by kernel_rfl) (by kernel_rfl) ?_
      refine gW ?_
      apply w_q; (focus exact rfl); (focus exact rfl); focus (intro _; (refine zIxo (X.length + A.length) hj0 ?_); exact det_refl)
      apply w_q; (focus exact rfl); (focus exact rfl); focus (intro _; (refine zElo ex (En.ts_len _) ?_); exact det_refl)
      refine gW ?_
      apply w_q; (focus exact rfl); (focus exact rfl); focus (intro _; (refine zIxo (X.length + c) hj1 ?_); exact det_refl)
      apply w_q; (focus exact rfl); (focus exact rfl); focus (intro _; (refine zElo ea (En.ts_len _) ?_); exact det_refl)
      apply w_q; (focus exact rfl); (focus exact rfl); focus (intro _; (refine zCallc hcp ?_ (hx := rzs_cons rz_c (rzs_cons rz_c rzs_self)); rintro _ rfl); exact det_refl)
      refine gW ?_
      refine w_nil ?_
      repeat (first | refine gG ?_)
      exact ⟨(c + 1, j), ⟨by dsimp only; omega, hjB, g3, g2⟩, by dsimp only; omega, x_wkd 1 ⟨rfl, rfl, trivial⟩ rfl (by repeat (first | exact ag_refl | refine ag_upd rfl ?_ | refine ag_at rfl rfl ?_))⟩
    · have g3 := hdn (of_decide_eq_true hcf)
      clear hdn hup g2
      generalize enC y.1 (A[c]).1 = cv at *
      generalize (A[c]).1 = z at *
      repeat (first | refine gG ?_)
      refine zAn (a := X.length + i) (b := X.length + j) ?_
      repeat (first | refine gG ?_)
      refine lo_conv tok rfl rfl rfl rfl (u64nat (s := X.length + i + (X.length + j)) (by omega)) ?_
      repeat (first | refine gG ?_)
      refine lo_shr rfl rfl (by decide) (half_nat (X.length + i + (X.length + j))) ?_
      repeat (first | refine gG ?_)
      refine lo_conv tok rfl rfl rfl rfl (r := ((X.length + c : Nat) : Int)) (by rw [i64nat (by omega), hs2]) ?_
      repeat (first | refine gG ?_)
      refine ac_draw [1, 1, 1, 1, 1, 1, 1, 1, 1, 1, 1, 1] [0, 1, 2, 3, 4, 5, 6, 7, 8, 9, 10, 11] (by kernel_rfl) (by kernel_rfl) ?_
      refine gW ?_
      apply w_q; (focus exact rfl); (focus exact rfl); focus (intro _; (refine zIxo (X.length + A.length) hj0 ?_); exact det_refl)
      apply w_q; (focus exact rfl); (focus exact rfl); focus (intro _; (refine zElo ex (En.ts_len _) ?_); exact det_refl)
      refine gW ?_
      apply w_q; (focus exact rfl); (focus exact rfl); focus (intro _; (refine zIxo (X.length + c) hj1 ?_); exact det_refl)
      apply w_q; (focus exact rfl); (focus exact rfl); focus (intro _; (refine zElo ea (En.ts_len _) ?_); exact det_refl)
      apply w_q; (focus exact rfl); (focus exact rfl); focus (intro _; (refine zCallc hcp ?_ (hx := rzs_cons rz_c (rzs_cons rz_c rzs_self)); rintro _ rfl); exact det_refl)
      refine gW ?_
      refine w_nil ?_
      repeat (first | refine gG ?_)
      exact ⟨(i, c), ⟨by dsimp only; omega, by dsimp only; omega, g1, g3⟩, by dsimp only; omega, x_wkd 1 ⟨rfl, rfl, trivial⟩ rfl (by repeat (first | exact ag_refl | refine ag_upd rfl ?_ | refine ag_at rfl rfl ?_))⟩
  have hji : j = i := by
    have := of_decide_eq_false hc
    omega
  subst hji
  clear hc hij
  obtain ⟨m1, m2⟩ := merge_one_right enC_ok hA ht g1 g2
  clear g1 g2
  repeat (first | refine gG ?_)
  refine x_loop [17, 108, 109, 110, 111, 112, 113, 114, 115, 116, 117, 118, 119, 120, 121, 122, 123, 124, 125, 126, 127, 128] (fun q : Nat => [(17, .c (.lit (.int .i64 ((X.length + q : Nat) : Int))))]) (fun q => [.row w 40 4 n ((inR X A y q Z).flatMap En.ts)]) (fun q => j ≤ q ∧ q ≤ A.length) (fun q => q) A.length ⟨hjB, Nat.le_refl _⟩ ⟨rfl, trivial⟩ rfl ?_
  rintro q ⟨hq, hqA⟩
  repeat (first | refine gG ?_)
  refine x_cond rfl (fun hc => ?_) (fun hc => ?_)
  · have hqj : j < q := by
      have := of_decide_eq_true hc
      omega
    clear hc m1 m2
    obtain ⟨p, rfl⟩ : ∃ p, q = p + 1 := ⟨q - 1, by omega⟩
    have hpC : p < A.length := by omega
    have hlr := inR_len (X := X) (C := A) (x := y) (p := p + 1) (R := Z)
    have ea := En.at (inR_at (X := X) (C := A) (x := y) (p := p + 1) (R := Z) (by omega))
    have eb := En.at (inR_prev (X := X) (C := A) (x := y) (R := Z) hpC)
    have hsw := inR_swap (X := X) (x := y) (R := Z) hpC
    have hja : X.length + (p + 1) < n := by omega
    have hjb : X.length + p < n := by omega
    generalize inR X A y (p + 1) Z = L at *
    generalize hL2 : inR X A y p Z = L2 at *
    generalize (A[p]).1 = z at *
    have s1 : spl (L.flatMap En.ts) ((X.length + (p + 1)) * 4) (En.ts z) = (L.set (X.length + (p + 1)) z).flatMap En.ts := en_one (by omega) rfl
    have s2 : spl ((L.set (X.length + (p + 1)) z).flatMap En.ts) ((X.length + p) * 4) (En.ts y.1) = L2.flatMap En.ts := en_one (by rw [List.length_set]; omega) hsw
    have b1 : (X.length + (p + 1)) * 4 + 4 ≤ (L.flatMap En.ts).length := by rw [en_len]; omega
    have b2 : (X.length + p) * 4 + 4 ≤ ((L.set (X.length + (p + 1)) z).flatMap En.ts).length := by rw [en_len, List.length_set]; omega
    clear hsw
    generalize L.set (X.length + (p + 1)) z = L1 at *
    repeat (first | refine gG ?_)
    refine ac_draw [1, 1, 0, 0, 0, 1, 1, 1, 1, 1, 1, 1, 1, 1, 1, 2, 1, 2] [0, 1, 2, 3, 4, 5, 6, 7, 8, 9, 10, 11, 12, 13, 14, 15, 16, 17] (by kernel_rfl) (by kernel_rfl) ?_
    refine gW ?_
    apply w_p; (focus exact rfl); (focus exact rfl); focus (intro _; (refine lo_sub rfl rfl (r := ((X.length + p : Nat) : Int)) (by rw [IntWalk.i64_in _ (by omega)]; omega) ?_); exact det_refl)
    refine gW ?_
    apply w_q; (focus exact rfl); (focus exact rfl); focus (intro _; (refine lo_sub rfl rfl (r := ((X.length + p : Nat) : Int)) (by rw [IntWalk.i64_in _ (by omega)]; omega) ?_); exact det_refl)
    apply w_q; (focus exact rfl); (focus exact rfl); focus (intro _; (refine zIxo (X.length + p) hjb ?_); exact det_refl)
    apply w_q; (focus exact rfl); (focus exact rfl); focus (intro _; (refine zElo eb (En.ts_len _) ?_); exact det_refl)
    refine gW ?_
    apply w_q; (focus exact rfl); (focus exact rfl); focus (intro _; (refine zIxo (X.length + (p + 1)) hja ?_); exact det_refl)
    apply w_q; (focus exact rfl); (focus exact rfl); focus (intro _; (refine zElo ea (En.ts_len _) ?_); exact det_refl)
    apply w_q; (focus exact rfl); (focus exact rfl); focus (intro _; (refine zIxo (X.length + (p + 1)) hja ?_); exact det_refl)
    apply w_l; (focus exact rfl); (focus exact rfl); (refine zSe s1 b1 ?_)
    apply w_q; (focus exact rfl); (focus exact rfl); focus (intro _; (refine zIxo (X.length + p) hjb ?_); exact det_refl)
    apply w_l; (focus exact rfl); (focus exact rfl); (refine zSe s2 b2 ?_)
    refine w_nil ?_
    repeat (first | refine gG ?_)
    refine lo_sub rfl rfl (r := ((X.length + p : Nat) : Int)) (by rw [IntWalk.i64_in _ (by omega)]; omega) ?_
    repeat (first | refine gG ?_)
    exact ⟨p, ⟨by omega, by omega⟩, by omega, x_wkd 1 ⟨rfl, trivial⟩ (by rw [hL2]; rfl) (by repeat (first | exact ag_refl | refine ag_upd rfl ?_ | refine ag_at rfl rfl ?_))⟩
  · have hqj : q = j := by
      have := of_decide_eq_false hc
      omega
    subst hqj
    repeat (first | refine gG ?_)
    refine zG (vs := []) ?_
    exact ⟨rfl, _, m1, m2, by rw [inR_end]⟩
end Go.Proofs.YtbfomgchjlkopaaDoor
