/-
  Texts of this proof, part 12: TlwB.
-/
import Derived.Test.YthgackidonocpaaGreatQStoreLast11
import Derived.MapKept
namespace Go.Proofs.YthgackidonocpaaGreat
open Go.RowKit
set_option maxRecDepth 100000 in
set_option maxHeartbeats 4000000 in
theorem appendLetter_ag {k : Int} {fm tt n : Nat} {t : ByteArray} {v : V} (hfm : fm < 9223372036854775808) (htt : tt < 9223372036854775808) (hn : n < 9223372036854775808) (hok : v.ok) (w : Value) (b : List UInt8) (hb : b.length + (Lt.mk k fm tt n t v).bytes.length ≤ 1099511627776) :
    AG Tryz.prog 96 [.own 0 w, .c (Lt.mk k fm tt n t v).t] [.row w 5 1 b.length (byts b)] (Grew 5 (b ++ (Lt.mk k fm tt n t v).bytes)) := by
  have e0 : (Lt.mk k fm tt n t v).bytes = kb k :: (uv fm ++ (uv tt ++ (uv n ++ (uv t.size ++ (t.data.toList ++ (if k = 1 then v.bytes else [])))))) := by simp only [Lt.bytes, Int.toNat_natCast]
  rw [e0] at hb ⊢
  simp only [List.length_append, List.length_cons, sz_len] at hb
  have hi1 : ∀ v1, AG Tryz.prog 95 [.own 0 v1, .c (.lit (.int .i64 (fm : Int)))] [.row v1 5 1 (b.length + 1) (byts b ++ [.lit (.int .u8 (IntKind.u8.wrap k))])] (Grew 5 (b ++ (kb k :: uv fm))) := by
    intro v1
    have h := nat_ag v1 (b ++ [kb k]) fm hfm (by simp only [List.length_append, List.length_cons, List.length_nil]; omega)
    rw [← kb_T]
    simpa [byts] using h
  have hi2 := fun v2 => nat_ag v2 (b ++ (kb k :: uv fm)) tt htt (by simp only [List.length_append, List.length_cons]; omega)
  have hi3 := fun v3 => nat_ag v3 (b ++ (kb k :: uv fm) ++ uv tt) n hn (by simp only [List.length_append, List.length_cons]; omega)
  have hi4 := fun v4 => text_ag v4 (b ++ (kb k :: uv fm) ++ uv tt ++ uv n) t (by simp only [List.length_append, List.length_cons]; omega)
  by_cases hk : k = 1
  · rw [if_pos hk] at hb ⊢
    have hi5 := fun v5 => appendValue_ag v hok v5 (b ++ (kb k :: uv fm) ++ uv tt ++ uv n ++ (uv t.size ++ t.data.toList)) (by simp only [List.length_append, List.length_cons, sz_len]; omega)
    have d1 : decide (k = 1) = true := decide_eq_true hk
    obtain ⟨kv, nv, tv, lv⟩ := v
    refine ag_enter 1 tok Tryz.func96 Tryz.ntmps96 Tryz.results96 rfl (by kernel_rfl) rfl fun F => ?_
    repeat (first | refine gG ?_ | refine zBf ?_ | refine zAp (fun _ => ?_))
    refine ac_draw [1, 1, 1, 1, 1, 2, 0, 0, 2, 0, 0, 2, 1] [0, 1, 2, 3, 4, 6, 7, 9, 10, 5, 8, 11, 12] (by kernel_rfl) (by kernel_rfl) ?_
    refine gW ?_
    apply w_q; (focus exact rfl); (focus exact rfl); focus (intro _; (refine lo_conv tok rfl rfl rfl rfl rfl ?_); exact det_refl)
    refine gW ?_
    apply w_l; (focus exact rfl); (focus exact rfl); (first | (refine zkL ?_; first | refine zL1 ?_ | refine zL2 ?_ | refine zL3 ?_ | refine zLp ?_) | refine zM ?_ | (refine zkF ?_; first | refine zF1 ?_ | refine zF2 ?_ | refine zF3 ?_) | refine zA ?_ | (refine zkB ?_; first | refine zC5 ?_ | refine zC6 ?_ | refine zC1 ?_ | refine zC2 ?_ | refine zC3 ?_ | refine zC4 ?_ | refine zS5 ?_ | refine zS6 ?_ | refine zS1 ?_ | refine zS2 ?_ | refine zS3 ?_ | refine zS4 ?_ | refine zInc ?_ | refine zQ1 ?_ | refine zQ2 ?_ | refine zQ3 ?_ | refine zQ4 ?_ | refine zQ5 ?_ | refine zQ6 ?_) | (refine zkI ?_; first | refine zN1 (fun hlen => ?_) | refine zN2 (fun hlen => ?_) | refine zN3 ?_ | refine zN4 ?_ | refine zAp (fun _ => ?_)) | refine zS ?_ | refine zAl (fun _ => ?_) | refine zBx (fun _ => ?_) | refine zPt ?_ | refine zPf ?_ | refine zE ?_ | refine zEA ?_ | refine zNot ?_ | refine zBd ?_ | refine zBs ?_ | refine zFn ?_ | refine zK1 ?_ | refine zK2 ?_)
    apply w_l; (focus exact rfl); (focus exact rfl); (refine zCallG [0] (hi1 _) ?_; rintro _ _ ⟨v', rfl, rfl⟩; refine ⟨.own 0 v', _, re_own, rfl, rfl, ?_⟩)
    apply w_l; (focus exact rfl); (focus exact rfl); (refine zCallG [0] (hi2 _) ?_; rintro _ _ ⟨v', rfl, rfl⟩; refine ⟨.own 0 v', _, re_own, rfl, rfl, ?_⟩)
    refine gW ?_
    refine w_nil ?_
    repeat (first | refine gG ?_ | refine zBx (fun _ => ?_) | refine zAp (fun _ => ?_))
    refine ac_draw [1, 1, 1, 2, 0, 0, 2, 1] [0, 1, 2, 4, 5, 3, 6, 7] (by kernel_rfl) (by kernel_rfl) ?_
    refine gW ?_
    apply w_l; (focus exact rfl); (focus exact rfl); (refine zCallG [0] (hi3 _) ?_; rintro _ _ ⟨v', rfl, rfl⟩; refine ⟨.own 0 v', _, re_own, rfl, rfl, ?_⟩)
    apply w_l; (focus exact rfl); (focus exact rfl); (refine zCallG [0] (hi4 _) ?_; rintro _ _ ⟨v', rfl, rfl⟩; refine ⟨.own 0 v', _, re_own, rfl, rfl, ?_⟩)
    refine gW ?_
    refine w_nil ?_
    repeat (first | refine gG ?_ | refine zBx (fun _ => ?_) | refine zAp (fun _ => ?_))
    refine zCallG [0] (hi5 _) ?_
    rintro _ _ ⟨v', rfl, rfl⟩
    refine ⟨.own 0 v', _, re_own, rfl, rfl, ?_⟩
    repeat (first | refine gG ?_ | refine zBx (fun _ => ?_) | refine zAp (fun _ => ?_))
    refine zG ?_
    exact ⟨_, rfl, by simp only [List.append_assoc, List.cons_append]⟩
  · rw [if_neg hk] at hb ⊢
    have d1 : decide (k = 1) = false := decide_eq_false hk
    obtain ⟨kv, nv, tv, lv⟩ := v
    refine ag_enter 1 tok Tryz.func96 Tryz.ntmps96 Tryz.results96 rfl (by kernel_rfl) rfl fun F => ?_
    repeat (first | refine gG ?_ | refine zBf ?_ | refine zAp (fun _ => ?_))
    refine ac_draw [1, 1, 1, 1, 1, 2, 0, 0, 2, 0, 0, 2, 1] [0, 1, 2, 3, 4, 6, 7, 9, 10, 5, 8, 11, 12] (by kernel_rfl) (by kernel_rfl) ?_
    refine gW ?_
    apply w_q; (focus exact rfl); (focus exact rfl); focus (intro _; (refine lo_conv tok rfl rfl rfl rfl rfl ?_); exact det_refl)
    refine gW ?_
    apply w_l; (focus exact rfl); (focus exact rfl); (first | (refine zkL ?_; first | refine zL1 ?_ | refine zL2 ?_ | refine zL3 ?_ | refine zLp ?_) | refine zM ?_ | (refine zkF ?_; first | refine zF1 ?_ | refine zF2 ?_ | refine zF3 ?_) | refine zA ?_ | (refine zkB ?_; first | refine zC5 ?_ | refine zC6 ?_ | refine zC1 ?_ | refine zC2 ?_ | refine zC3 ?_ | refine zC4 ?_ | refine zS5 ?_ | refine zS6 ?_ | refine zS1 ?_ | refine zS2 ?_ | refine zS3 ?_ | refine zS4 ?_ | refine zInc ?_ | refine zQ1 ?_ | refine zQ2 ?_ | refine zQ3 ?_ | refine zQ4 ?_ | refine zQ5 ?_ | refine zQ6 ?_) | (refine zkI ?_; first | refine zN1 (fun hlen => ?_) | refine zN2 (fun hlen => ?_) | refine zN3 ?_ | refine zN4 ?_ | refine zAp (fun _ => ?_)) | refine zS ?_ | refine zAl (fun _ => ?_) | refine zBx (fun _ => ?_) | refine zPt ?_ | refine zPf ?_ | refine zE ?_ | refine zEA ?_ | refine zNot ?_ | refine zBd ?_ | refine zBs ?_ | refine zFn ?_ | refine zK1 ?_ | refine zK2 ?_)
    apply w_l; (focus exact rfl); (focus exact rfl); (refine zCallG [0] (hi1 _) ?_; rintro _ _ ⟨v', rfl, rfl⟩; refine ⟨.own 0 v', _, re_own, rfl, rfl, ?_⟩)
    apply w_l; (focus exact rfl); (focus exact rfl); (refine zCallG [0] (hi2 _) ?_; rintro _ _ ⟨v', rfl, rfl⟩; refine ⟨.own 0 v', _, re_own, rfl, rfl, ?_⟩)
    refine gW ?_
    refine w_nil ?_
    repeat (first | refine gG ?_ | refine zBx (fun _ => ?_) | refine zAp (fun _ => ?_))
    refine ac_draw [1, 1, 1, 2, 0, 0, 2, 1] [0, 1, 2, 4, 5, 3, 6, 7] (by kernel_rfl) (by kernel_rfl) ?_
    refine gW ?_
    apply w_l; (focus exact rfl); (focus exact rfl); (refine zCallG [0] (hi3 _) ?_; rintro _ _ ⟨v', rfl, rfl⟩; refine ⟨.own 0 v', _, re_own, rfl, rfl, ?_⟩)
    apply w_l; (focus exact rfl); (focus exact rfl); (refine zCallG [0] (hi4 _) ?_; rintro _ _ ⟨v', rfl, rfl⟩; refine ⟨.own 0 v', _, re_own, rfl, rfl, ?_⟩)
    refine gW ?_
    refine w_nil ?_
    repeat (first | refine gG ?_ | refine zBx (fun _ => ?_) | refine zAp (fun _ => ?_))
    refine zG ?_
    exact ⟨_, rfl, by simp only [List.append_assoc, List.cons_append, List.append_nil]⟩
theorem Lt.bytes_le {x : Lt} (h : x.Small) : x.bytes.length ≤ 2000000100 := by
  obtain ⟨k, fm, tt, n, t, v⟩ := x
  obtain ⟨h1, h2, h3, h4⟩ := h
  simp only [Lt.val] at h1 h2 h3
  obtain ⟨a1, a2, a3, a4⟩ := h4
  unfold inI at a1 a2 a3
  have u1 := uv_len64 (n := fm.toNat) (by omega)
  have u2 := uv_len64 (n := tt.toNat) (by omega)
  have u3 := uv_len64 (n := n.toNat) (by omega)
  have u4 := uv_len64 (n := t.size) (by omega)
  simp only [Lt.bytes, List.length_cons, List.length_append, sz_len]
  split
  · omega
  · simp only [List.length_nil]; omega
theorem nat_of {n : Int} (h : 0 ≤ n) : ∃ m : Nat, n = m := ⟨n.toNat, by omega⟩
set_option maxRecDepth 100000 in
set_option maxHeartbeats 4000000 in
theorem writtenL_af (x : Lt) (hs : x.Small) : AF Tryz.prog 99 [x.t, .fn (.func 65) [], .fn (.func 96) []] (Outs2 x.out x.check) := by
  have hc := checkLetter_af x
  have hbl := Lt.bytes_le hs
  unfold Lt.out
  by_cases hyes : x.check = 0
  · rw [if_pos hyes]
    obtain ⟨k, fm, tt, n, t, v⟩ := x
    have hR := Lt.right hyes
    obtain ⟨h1, h2, h3, h4⟩ := hs
    simp only [Lt.val] at h1 h2 h3
    obtain ⟨a1, a2, a3, a4⟩ := h4
    unfold inI at a1 a2 a3
    obtain ⟨fm, rfl⟩ := nat_of hR.fm0
    obtain ⟨tt, rfl⟩ := nat_of hR.tt0
    obtain ⟨n, rfl⟩ := nat_of hR.n0.1
    have ha := ag_nil (Nat.succ_pos 0) (appendLetter_ag (k := k) (t := t) (fm := fm) (tt := tt) (n := n) (by omega) (by omega) (by omega) h1 (.slice none 0 0) [] (by simp only [List.length_nil]; omega))
    rw [List.nil_append] at ha
    generalize (Lt.mk k fm tt n t v).bytes = o at *
    rw [hyes] at hc ⊢
    obtain ⟨kv, nv, tv, lv⟩ := v
    refine af_enter tok Tryz.func99 Tryz.ntmps99 Tryz.results99 rfl (by kernel_rfl) rfl rfl fun F hX => ?_
    repeat (first | refine gG ?_ | refine zBf ?_)
    refine zCallc (hc) ?_
    rintro _ rfl
    repeat (first | refine gG ?_ | refine zBx (fun _ => ?_))
    refine zCallGc [] ha ?_
    rintro _ _ ⟨v', rfl, rfl⟩
    refine ⟨.own 0 v', _, re_own, rfl, rfl, ?_⟩
    repeat (first | refine gG ?_ | refine zBx (fun _ => ?_))
    first | refine zR ?_ | refine zQ ?_
    rfl
  · rw [if_neg hyes]
    have d1 : decide (x.check = 0) = false := decide_eq_false hyes
    generalize x.check = e at *
    obtain ⟨k, fm, tt, n, t, ⟨kv, nv, tv, lv⟩⟩ := x
    refine af_enter tok Tryz.func99 Tryz.ntmps99 Tryz.results99 rfl (by kernel_rfl) rfl rfl fun F hX => ?_
    repeat (first | refine gG ?_ | refine zBf ?_)
    refine zCallc (hc) ?_
    rintro _ rfl
    repeat (first | refine gG ?_ | refine zBx (fun _ => ?_))
    first | refine zR (ts := [bytRow [], .lit (.int .i64 e)]) ?_ | refine zQ (ts := [bytRow [], .lit (.int .i64 e)]) ?_
    rfl
set_option maxRecDepth 100000 in
set_option maxHeartbeats 4000000 in
theorem letterW_af (x : Lt) (hs : x.Small) : AF Tryz.prog 68 [x.t] (Outs2 x.out x.check) := by
  have hc := writtenL_af x hs
  generalize x.out = o at *
  generalize x.check = e at *
  obtain ⟨k, fm, tt, n, t, ⟨kv, nv, tv, lv⟩⟩ := x
  refine af_enter tok Tryz.func68 Tryz.ntmps68 Tryz.results68 rfl (by kernel_rfl) rfl rfl fun F hX => ?_
  repeat (first | refine gG ?_ | refine zBf ?_)
  refine zCall (hc) ?_
  rintro _ rfl
  repeat (first | refine gG ?_ | refine zBx (fun _ => ?_))
  first | refine zR ?_ | refine zQ ?_
  rfl
set_option maxRecDepth 100000 in
set_option maxHeartbeats 4000000 in
theorem letterText_af {k : Int} {fm tt n : Nat} {t : ByteArray} {v : V} (hfm : fm < 9223372036854775808) (htt : tt < 9223372036854775808) (hn : n < 9223372036854775808) (hok : v.ok) (hb : (Lt.mk k fm tt n t v).bytes.length ≤ 1099511627776) : AF Tryz.prog 35 [(Lt.mk k fm tt n t v).t] (· = .lit (.string (bs (Lt.mk k fm tt n t v).bytes))) := by
  have e0 : (Lt.mk k fm tt n t v).bytes = kb k :: (uv fm ++ (uv tt ++ (uv n ++ (uv t.size ++ (t.data.toList ++ (if k = 1 then v.bytes else [])))))) := by simp only [Lt.bytes, Int.toNat_natCast]
  rw [e0] at hb ⊢
  simp only [List.length_append, List.length_cons, sz_len] at hb
  have h1 := rnat_af fm (by omega)
  have h2 := rnat_af tt (by omega)
  have h3 := rnat_af n (by omega)
  have h4 := rnat_af t.size (by omega)
  have w1 : IntKind.u64.wrap (fm : Int) = (fm : Int) := by rw [wrap_u64]; omega
  have w2 : IntKind.u64.wrap (tt : Int) = (tt : Int) := by rw [wrap_u64]; omega
  have w3 : IntKind.u64.wrap (n : Int) = (n : Int) := by rw [wrap_u64]; omega
  have w4 : IntKind.u64.wrap (t.size : Int) = (t.size : Int) := by rw [wrap_u64]; omega
  by_cases hk : k = 1
  · rw [if_pos hk] at hb ⊢
    have h5 := valueText_af v hok (by omega)
    have d1 : decide (k = 1) = true := decide_eq_true hk
    generalize hvb : v.bytes = vb at *
    obtain ⟨kv, nv, tv, lv⟩ := v
    refine af_enter tok Tryz.func35 Tryz.ntmps35 Tryz.results35 rfl (by kernel_rfl) rfl rfl fun F hX => ?_
    repeat (first | refine gG ?_ | refine zN1 (fun hlen => ?_) | refine zN2 (fun hlen => ?_) | refine zBf ?_)
    refine ac_draw [1, 1, 1, 1, 1, 1, 1, 1, 1, 1, 1, 1, 1, 1, 1, 1, 1, 1, 1, 1, 1, 1, 1, 1, 1, 1, 1, 1, 1, 1] [0, 1, 2, 3, 4, 5, 6, 7, 8, 9, 10, 11, 12, 13, 14, 15, 16, 17, 18, 19, 20, 21, 22, 23, 24, 25, 26, 27, 28, 29] (by kernel_rfl) (by kernel_rfl) ?_
    refine gW ?_
    apply w_q; (focus exact rfl); (focus exact rfl); focus (intro _; (refine lo_conv tok rfl rfl rfl rfl rfl ?_); exact det_refl)
    refine gW ?_
    apply w_q; (focus exact rfl); (focus exact rfl); focus (intro _; (refine zStr [kb k] (one_kb k) rfl ?_); exact det_refl)
    refine gW ?_
    apply w_q; (focus exact rfl); (focus exact rfl); focus (intro _; (refine lo_conv tok rfl rfl rfl rfl w1 ?_); exact det_refl)
    apply w_q; (focus exact rfl); (focus exact rfl); focus (intro _; (refine lo_call h1 rfl (by repeat (first | exact rzs_nil | apply rzs_cons | exact rz_c | exact rz_nil rfl | apply rz_agg | exact rz_own rfl | apply rz_fn | exact rz_ptr rfl | apply rz_tup)) ?_; rintro _ rfl); exact det_refl)
    apply w_q; (focus exact rfl); (focus exact rfl); focus (intro _; (refine zCatb ([kb k]) (uv fm) (by simp only [List.length_cons, List.length_nil]; omega) ?_); exact det_refl)
    refine gW ?_
    apply w_q; (focus exact rfl); (focus exact rfl); focus (intro _; (refine lo_conv tok rfl rfl rfl rfl w2 ?_); exact det_refl)
    apply w_q; (focus exact rfl); (focus exact rfl); focus (intro _; (refine lo_call h2 rfl (by repeat (first | exact rzs_nil | apply rzs_cons | exact rz_c | exact rz_nil rfl | apply rz_agg | exact rz_own rfl | apply rz_fn | exact rz_ptr rfl | apply rz_tup)) ?_; rintro _ rfl); exact det_refl)
    apply w_q; (focus exact rfl); (focus exact rfl); focus (intro _; (refine zCatb ([kb k] ++ uv fm) (uv tt) (by simp only [List.length_append, List.length_cons, List.length_nil]; omega) ?_); exact det_refl)
    refine gW ?_
    apply w_q; (focus exact rfl); (focus exact rfl); focus (intro _; (refine lo_conv tok rfl rfl rfl rfl w3 ?_); exact det_refl)
    apply w_q; (focus exact rfl); (focus exact rfl); focus (intro _; (refine lo_call h3 rfl (by repeat (first | exact rzs_nil | apply rzs_cons | exact rz_c | exact rz_nil rfl | apply rz_agg | exact rz_own rfl | apply rz_fn | exact rz_ptr rfl | apply rz_tup)) ?_; rintro _ rfl); exact det_refl)
    apply w_q; (focus exact rfl); (focus exact rfl); focus (intro _; (refine zCatb ([kb k] ++ uv fm ++ uv tt) (uv n) (by simp only [List.length_append, List.length_cons, List.length_nil]; omega) ?_); exact det_refl)
    refine gW ?_
    apply w_q; (focus exact rfl); (focus exact rfl); focus (intro _; (refine lo_conv tok rfl rfl rfl rfl w4 ?_); exact det_refl)
    apply w_q; (focus exact rfl); (focus exact rfl); focus (intro _; (refine lo_call h4 rfl (by repeat (first | exact rzs_nil | apply rzs_cons | exact rz_c | exact rz_nil rfl | apply rz_agg | exact rz_own rfl | apply rz_fn | exact rz_ptr rfl | apply rz_tup)) ?_; rintro _ rfl); exact det_refl)
    apply w_q; (focus exact rfl); (focus exact rfl); focus (intro _; (refine zCatb ([kb k] ++ uv fm ++ uv tt ++ uv n) (uv t.size) (by simp only [List.length_append, List.length_cons, List.length_nil]; omega) ?_); exact det_refl)
    refine gW ?_
    apply w_q; (focus exact rfl); (focus exact rfl); focus (intro _; (refine zCatb ([kb k] ++ uv fm ++ uv tt ++ uv n ++ uv t.size) (t.data.toList) (by simp only [List.length_append, List.length_cons, List.length_nil, sz_len]; omega) ?_); exact det_refl)
    refine gW ?_
    refine w_nil ?_
    repeat (first | refine gG ?_ | refine zN1 (fun hlen => ?_) | refine zN2 (fun hlen => ?_) | refine zBx (fun _ => ?_))
    refine zCall (h5) ?_
    rintro _ rfl
    repeat (first | refine gG ?_ | refine zN1 (fun hlen => ?_) | refine zN2 (fun hlen => ?_) | refine zBx (fun _ => ?_))
    refine zCatb ([kb k] ++ uv fm ++ uv tt ++ uv n ++ uv t.size ++ t.data.toList) vb (by simp only [List.length_append, List.length_cons, List.length_nil, sz_len]; omega) ?_
    repeat (first | refine gG ?_ | refine zN1 (fun hlen => ?_) | refine zN2 (fun hlen => ?_) | refine zBx (fun _ => ?_))
    first | refine zR ?_ | refine zQ ?_
    simp only [List.append_assoc, List.cons_append, List.nil_append]; rfl
  · rw [if_neg hk] at hb ⊢
    have d1 : decide (k = 1) = false := decide_eq_false hk
    obtain ⟨kv, nv, tv, lv⟩ := v
    refine af_enter tok Tryz.func35 Tryz.ntmps35 Tryz.results35 rfl (by kernel_rfl) rfl rfl fun F hX => ?_
    repeat (first | refine gG ?_ | refine zN1 (fun hlen => ?_) | refine zN2 (fun hlen => ?_) | refine zBf ?_)
    refine ac_draw [1, 1, 1, 1, 1, 1, 1, 1, 1, 1, 1, 1, 1, 1, 1, 1, 1, 1, 1, 1, 1, 1, 1, 1, 1, 1, 1, 1, 1, 1] [0, 1, 2, 3, 4, 5, 6, 7, 8, 9, 10, 11, 12, 13, 14, 15, 16, 17, 18, 19, 20, 21, 22, 23, 24, 25, 26, 27, 28, 29] (by kernel_rfl) (by kernel_rfl) ?_
    refine gW ?_
    apply w_q; (focus exact rfl); (focus exact rfl); focus (intro _; (refine lo_conv tok rfl rfl rfl rfl rfl ?_); exact det_refl)
    refine gW ?_
    apply w_q; (focus exact rfl); (focus exact rfl); focus (intro _; (refine zStr [kb k] (one_kb k) rfl ?_); exact det_refl)
    refine gW ?_
    apply w_q; (focus exact rfl); (focus exact rfl); focus (intro _; (refine lo_conv tok rfl rfl rfl rfl w1 ?_); exact det_refl)
    apply w_q; (focus exact rfl); (focus exact rfl); focus (intro _; (refine lo_call h1 rfl (by repeat (first | exact rzs_nil | apply rzs_cons | exact rz_c | exact rz_nil rfl | apply rz_agg | exact rz_own rfl | apply rz_fn | exact rz_ptr rfl | apply rz_tup)) ?_; rintro _ rfl); exact det_refl)
    apply w_q; (focus exact rfl); (focus exact rfl); focus (intro _; (refine zCatb ([kb k]) (uv fm) (by simp only [List.length_cons, List.length_nil]; omega) ?_); exact det_refl)
    refine gW ?_
    apply w_q; (focus exact rfl); (focus exact rfl); focus (intro _; (refine lo_conv tok rfl rfl rfl rfl w2 ?_); exact det_refl)
    apply w_q; (focus exact rfl); (focus exact rfl); focus (intro _; (refine lo_call h2 rfl (by repeat (first | exact rzs_nil | apply rzs_cons | exact rz_c | exact rz_nil rfl | apply rz_agg | exact rz_own rfl | apply rz_fn | exact rz_ptr rfl | apply rz_tup)) ?_; rintro _ rfl); exact det_refl)
    apply w_q; (focus exact rfl); (focus exact rfl); focus (intro _; (refine zCatb ([kb k] ++ uv fm) (uv tt) (by simp only [List.length_append, List.length_cons, List.length_nil]; omega) ?_); exact det_refl)
    refine gW ?_
    apply w_q; (focus exact rfl); (focus exact rfl); focus (intro _; (refine lo_conv tok rfl rfl rfl rfl w3 ?_); exact det_refl)
    apply w_q; (focus exact rfl); (focus exact rfl); focus (intro _; (refine lo_call h3 rfl (by repeat (first | exact rzs_nil | apply rzs_cons | exact rz_c | exact rz_nil rfl | apply rz_agg | exact rz_own rfl | apply rz_fn | exact rz_ptr rfl | apply rz_tup)) ?_; rintro _ rfl); exact det_refl)
    apply w_q; (focus exact rfl); (focus exact rfl); focus (intro _; (refine zCatb ([kb k] ++ uv fm ++ uv tt) (uv n) (by simp only [List.length_append, List.length_cons, List.length_nil]; omega) ?_); exact det_refl)
    refine gW ?_
    apply w_q; (focus exact rfl); (focus exact rfl); focus (intro _; (refine lo_conv tok rfl rfl rfl rfl w4 ?_); exact det_refl)
    apply w_q; (focus exact rfl); (focus exact rfl); focus (intro _; (refine lo_call h4 rfl (by repeat (first | exact rzs_nil | apply rzs_cons | exact rz_c | exact rz_nil rfl | apply rz_agg | exact rz_own rfl | apply rz_fn | exact rz_ptr rfl | apply rz_tup)) ?_; rintro _ rfl); exact det_refl)
    apply w_q; (focus exact rfl); (focus exact rfl); focus (intro _; (refine zCatb ([kb k] ++ uv fm ++ uv tt ++ uv n) (uv t.size) (by simp only [List.length_append, List.length_cons, List.length_nil]; omega) ?_); exact det_refl)
    refine gW ?_
    apply w_q; (focus exact rfl); (focus exact rfl); focus (intro _; (refine zCatb ([kb k] ++ uv fm ++ uv tt ++ uv n ++ uv t.size) (t.data.toList) (by simp only [List.length_append, List.length_cons, List.length_nil, sz_len]; omega) ?_); exact det_refl)
    refine gW ?_
    refine w_nil ?_
    repeat (first | refine gG ?_ | refine zN1 (fun hlen => ?_) | refine zN2 (fun hlen => ?_) | refine zBx (fun _ => ?_))
    first | refine zR ?_ | refine zQ ?_
    simp only [List.append_assoc, List.cons_append, List.nil_append, List.append_nil]; rfl
set_option maxRecDepth 100000 in
set_option maxHeartbeats 4000000 in
theorem letterBytes_af (x : Lt) (hs : x.Small) : AF Tryz.prog 47 [x.t] (Outs2 x.out x.check) := by
  have hc := letterFault_af x hs.size
  rw [Lt.fault_eq] at hc
  have hbl := Lt.bytes_le hs
  unfold Lt.out
  by_cases hyes : x.check = 0
  · rw [if_pos hyes]
    obtain ⟨k, fm, tt, n, t, v⟩ := x
    have hR := Lt.right hyes
    obtain ⟨h1, h2, h3, h4⟩ := hs
    simp only [Lt.val] at h1 h2 h3
    obtain ⟨a1, a2, a3, a4⟩ := h4
    unfold inI at a1 a2 a3
    obtain ⟨fm, rfl⟩ := nat_of hR.fm0
    obtain ⟨tt, rfl⟩ := nat_of hR.tt0
    obtain ⟨n, rfl⟩ := nat_of hR.n0.1
    have ht := letterText_af (k := k) (t := t) (fm := fm) (tt := tt) (n := n) (by omega) (by omega) (by omega) h1 (by omega)
    generalize (Lt.mk k fm tt n t v).bytes = o at *
    rw [hyes] at hc ⊢
    obtain ⟨kv, nv, tv, lv⟩ := v
    refine af_enter tok Tryz.func47 Tryz.ntmps47 Tryz.results47 rfl (by kernel_rfl) rfl rfl fun F hX => ?_
    repeat (first | refine gG ?_ | refine zBf ?_)
    refine zCall (hc) ?_
    rintro _ rfl
    repeat (first | refine gG ?_ | refine zBx (fun _ => ?_))
    refine zCall (ht) ?_
    rintro _ rfl
    repeat (first | refine gG ?_ | refine zBx (fun _ => ?_))
    refine zByt (s := bs o) (by rw [bs_size']; simp only [maxLen]; omega) ?_
    repeat (first | refine gG ?_ | refine zBx (fun _ => ?_))
    first | refine zR ?_ | refine zQ ?_
    rfl
  · rw [if_neg hyes]
    have d1 : decide (x.check = 0) = false := decide_eq_false hyes
    generalize x.check = e at *
    obtain ⟨k, fm, tt, n, t, ⟨kv, nv, tv, lv⟩⟩ := x
    refine af_enter tok Tryz.func47 Tryz.ntmps47 Tryz.results47 rfl (by kernel_rfl) rfl rfl fun F hX => ?_
    repeat (first | refine gG ?_ | refine zBf ?_)
    refine zCall (hc) ?_
    rintro _ rfl
    repeat (first | refine gG ?_ | refine zBx (fun _ => ?_))
    first | refine zR (ts := [bytRow [], .lit (.int .i64 e)]) ?_ | refine zQ (ts := [bytRow [], .lit (.int .i64 e)]) ?_
    rfl
end Go.Proofs.YthgackidonocpaaGreat
namespace Go.Proofs.YthgackidonocpaaGreat
open Go.RowKit
set_option maxRecDepth 100000 in
set_option maxHeartbeats 4000000 in
theorem letterR_ag (b : Nat) (s : RS) (hd : s.dep ≤ 1000) (hl : s.l.length ≤ 1099511627776) : AG Tryz.prog 85 [.ptr 0 b 0] [rdB b s] (Gives b (rLet s).1.t (rLet s).2) := by
  unfold rLet
  dsimp only
  have c1 := byte_ag b s
  have l1 := rByte_len s
  have p1 := rByte_dep s
  generalize rByte s = q1 at *
  obtain ⟨k, s1⟩ := q1
  dsimp only at c1 l1 p1 ⊢
  have c2 := natR_ag b s1
  have l2 := rNat_len s1
  have p2 := rNat_dep s1
  generalize rNat s1 = q2 at *
  obtain ⟨fm, s2⟩ := q2
  dsimp only at c2 l2 p2 ⊢
  have c3 := natR_ag b s2
  have l3 := rNat_len s2
  have p3 := rNat_dep s2
  generalize rNat s2 = q3 at *
  obtain ⟨tt, s3⟩ := q3
  dsimp only at c3 l3 p3 ⊢
  have c4 := natR_ag b s3
  have l4 := rNat_len s3
  have p4 := rNat_dep s3
  generalize rNat s3 = q4 at *
  obtain ⟨n, s4⟩ := q4
  dsimp only at c4 l4 p4 ⊢
  have c5 := textR_ag b s4
  have l5 := rText_len s4
  have p5 := rText_dep s4
  generalize rText s4 = q5 at *
  obtain ⟨t, s5⟩ := q5
  dsimp only at c5 l5 p5 ⊢
  have c6 := valueR_ag b 40 s5 (by omega) (by omega) (by omega)
  generalize rVal 40 s5 = q6 at *
  obtain ⟨⟨kv, nv, tv, lv⟩, s6⟩ := q6
  dsimp only at c6 ⊢
  refine AG.re (R := fun r hs => Re r (.c (if k = 1 then (Lt.mk k fm tt n (bs t) (.mk kv nv tv lv), s6) else (Lt.mk k fm tt n (bs t) V.zero, s5)).1.t) ∧ hs = [rdB b (if k = 1 then (Lt.mk k fm tt n (bs t) (.mk kv nv tv lv), s6) else (Lt.mk k fm tt n (bs t) V.zero, s5)).2]) ?_ (fun r hs h => ⟨_, h.1, rfl, h.2⟩)
  refine ag_enter 1 tok Tryz.func85 Tryz.ntmps85 Tryz.results85 rfl (by kernel_rfl) rfl fun F => ?_
  repeat (first | refine gG ?_ | refine zAl (fun _ => ?_))
  rename_i b2
  refine x_join [4, 5, 6, 7, 8, 9, 10, 11, 12, 13, 14, 15, 16, 17, 18, 19, 20, 21, 22, 23, 24, 3] (fun b3 : Nat => [(3, .ptr 2 b3 0)]) (fun b3 => [rdB b s5, .box b2 63 [.c (.lit (.int .i64 0)), .c (.lit (.int .i64 0)), .c (.lit (.int .i64 0)), .c (.lit (.int .i64 0)), .c (.lit (.string ⟨#[]⟩)), .c (.lit (.int .i64 0)), .c (.lit (.int .i64 0)), .c (.lit (.string ⟨#[]⟩)), .c (.lit (.slice none 0 0))], .box b3 63 [.c (.lit (.int .i64 (k : Int))), .c (.lit (.int .i64 (fm : Int))), .c (.lit (.int .i64 (tt : Int))), .c (.lit (.int .i64 (n : Int))), .c (.lit (.string (bs t))), .c (.lit (.int .i64 0)), .c (.lit (.int .i64 0)), .c (.lit (.string ⟨#[]⟩)), .c (.lit (.slice none 0 0))]]) ?_ ?_
  rotate_left
  · skip
    refine ac_drawT [0, 0, 0, 2, 0, 0, 0, 2, 0, 0, 0, 2, 0, 0, 0, 2, 0, 0, 0, 2, 0, 3, 2] (.fork [0, 1, 2, 4, 5, 6, 8, 9, 10, 12, 13, 14, 16, 17, 18] 3 (.fork [] 7 (.fork [] 11 (.fork [] 15 (.fork [] 19 (.fin [20, 21, 22]) 21 (.fin [19, 20, 22])) 21 (.fin [15, 19, 20, 22])) 21 (.fin [11, 15, 19, 20, 22])) 21 (.fin [7, 11, 15, 19, 20, 22])) 21 (.fin [3, 7, 11, 15, 19, 20, 22])) (by kernel_rfl) (by kernel_rfl) ?_
    refine wt_fork ?_
    refine gW ?_
    refine w_nil ?_
    refine ⟨?_, ?_⟩
    · apply w_l; (focus exact rfl); (focus exact rfl); (refine zCallG [0] c1 ?_; rintro _ _ ⟨rfl, rfl⟩; refine ⟨_, _, re_refl, rfl, rfl, ?_⟩)
      refine w_nil ?_
      refine wt_fork ?_
      refine w_nil ?_
      refine ⟨?_, ?_⟩
      · apply w_l; (focus exact rfl); (focus exact rfl); (refine zCallG [0] c2 ?_; rintro _ _ ⟨rfl, rfl⟩; refine ⟨_, _, re_refl, rfl, rfl, ?_⟩)
        refine w_nil ?_
        refine wt_fork ?_
        refine w_nil ?_
        refine ⟨?_, ?_⟩
        · apply w_l; (focus exact rfl); (focus exact rfl); (refine zCallG [0] c3 ?_; rintro _ _ ⟨rfl, rfl⟩; refine ⟨_, _, re_refl, rfl, rfl, ?_⟩)
          refine w_nil ?_
          refine wt_fork ?_
          refine w_nil ?_
          refine ⟨?_, ?_⟩
          · apply w_l; (focus exact rfl); (focus exact rfl); (refine zCallG [0] c4 ?_; rintro _ _ ⟨rfl, rfl⟩; refine ⟨_, _, re_refl, rfl, rfl, ?_⟩)
            refine w_nil ?_
            refine wt_fork ?_
            refine w_nil ?_
            refine ⟨?_, ?_⟩
            · apply w_l; (focus exact rfl); (focus exact rfl); (refine zCallG [0] c5 ?_; rintro _ _ ⟨rfl, rfl⟩; refine ⟨_, _, re_refl, rfl, rfl, ?_⟩)
              refine w_nil ?_
              refine wt_fin ?_
              refine gW ?_
              apply w_a; (focus exact rfl); (focus exact rfl); refine v_alloc tok rfl rfl rfl (fun _ => rfl) (fun _ => ⟨⟨_, rfl⟩, ?_⟩)
              apply w_l; (focus exact rfl); (focus exact rfl); (first | (refine zkL ?_; first | refine zL1 ?_ | refine zL2 ?_ | refine zL3 ?_ | refine zLp ?_) | refine zM ?_ | (refine zkF ?_; first | refine zF1 ?_ | refine zF2 ?_ | refine zF3 ?_) | refine zA ?_ | (refine zkB ?_; first | refine zC5 ?_ | refine zC6 ?_ | refine zC1 ?_ | refine zC2 ?_ | refine zC3 ?_ | refine zC4 ?_ | refine zS5 ?_ | refine zS6 ?_ | refine zS1 ?_ | refine zS2 ?_ | refine zS3 ?_ | refine zS4 ?_ | refine zInc ?_ | refine zQ1 ?_ | refine zQ2 ?_ | refine zQ3 ?_ | refine zQ4 ?_ | refine zQ5 ?_ | refine zQ6 ?_) | (refine zkI ?_; first | refine zN1 (fun hlen => ?_) | refine zN2 (fun hlen => ?_) | refine zN3 ?_ | refine zN4 ?_ | refine zAp (fun _ => ?_)) | refine zS ?_ | refine zAl (fun _ => ?_) | refine zBx (fun _ => ?_) | refine zPt ?_ | refine zPf ?_ | refine zE ?_ | refine zEA ?_ | refine zNot ?_ | refine zBd ?_ | refine zBs ?_ | refine zFn ?_ | refine zK1 ?_ | refine zK2 ?_)
              refine w_nil ?_
              exact ⟨_, x_wkd 3 ⟨rfl, trivial⟩ rfl (by repeat (first | exact ag_refl | refine ag_upd rfl ?_ | refine ag_at rfl rfl ?_))⟩
            · apply w_a; (focus exact rfl); (focus exact rfl); refine v_alloc tok rfl rfl rfl (fun _ => rfl) (fun _ => ⟨⟨_, rfl⟩, ?_⟩)
              refine w_nil ?_
              refine wt_fin ?_
              apply w_l; (focus exact rfl); (focus exact rfl); (refine zCallG [0] c5 ?_; rintro _ _ ⟨rfl, rfl⟩; refine ⟨_, _, re_refl, rfl, rfl, ?_⟩)
              refine gW ?_
              apply w_l; (focus exact rfl); (focus exact rfl); (first | (refine zkL ?_; first | refine zL1 ?_ | refine zL2 ?_ | refine zL3 ?_ | refine zLp ?_) | refine zM ?_ | (refine zkF ?_; first | refine zF1 ?_ | refine zF2 ?_ | refine zF3 ?_) | refine zA ?_ | (refine zkB ?_; first | refine zC5 ?_ | refine zC6 ?_ | refine zC1 ?_ | refine zC2 ?_ | refine zC3 ?_ | refine zC4 ?_ | refine zS5 ?_ | refine zS6 ?_ | refine zS1 ?_ | refine zS2 ?_ | refine zS3 ?_ | refine zS4 ?_ | refine zInc ?_ | refine zQ1 ?_ | refine zQ2 ?_ | refine zQ3 ?_ | refine zQ4 ?_ | refine zQ5 ?_ | refine zQ6 ?_) | (refine zkI ?_; first | refine zN1 (fun hlen => ?_) | refine zN2 (fun hlen => ?_) | refine zN3 ?_ | refine zN4 ?_ | refine zAp (fun _ => ?_)) | refine zS ?_ | refine zAl (fun _ => ?_) | refine zBx (fun _ => ?_) | refine zPt ?_ | refine zPf ?_ | refine zE ?_ | refine zEA ?_ | refine zNot ?_ | refine zBd ?_ | refine zBs ?_ | refine zFn ?_ | refine zK1 ?_ | refine zK2 ?_)
              refine w_nil ?_
              exact ⟨_, x_wkd 3 ⟨rfl, trivial⟩ rfl (by repeat (first | exact ag_refl | refine ag_upd rfl ?_ | refine ag_at rfl rfl ?_))⟩
          · apply w_a; (focus exact rfl); (focus exact rfl); refine v_alloc tok rfl rfl rfl (fun _ => rfl) (fun _ => ⟨⟨_, rfl⟩, ?_⟩)
            refine w_nil ?_
            refine wt_fin ?_
            apply w_l; (focus exact rfl); (focus exact rfl); (refine zCallG [0] c4 ?_; rintro _ _ ⟨rfl, rfl⟩; refine ⟨_, _, re_refl, rfl, rfl, ?_⟩)
            apply w_l; (focus exact rfl); (focus exact rfl); (refine zCallG [0] c5 ?_; rintro _ _ ⟨rfl, rfl⟩; refine ⟨_, _, re_refl, rfl, rfl, ?_⟩)
            refine gW ?_
            apply w_l; (focus exact rfl); (focus exact rfl); (first | (refine zkL ?_; first | refine zL1 ?_ | refine zL2 ?_ | refine zL3 ?_ | refine zLp ?_) | refine zM ?_ | (refine zkF ?_; first | refine zF1 ?_ | refine zF2 ?_ | refine zF3 ?_) | refine zA ?_ | (refine zkB ?_; first | refine zC5 ?_ | refine zC6 ?_ | refine zC1 ?_ | refine zC2 ?_ | refine zC3 ?_ | refine zC4 ?_ | refine zS5 ?_ | refine zS6 ?_ | refine zS1 ?_ | refine zS2 ?_ | refine zS3 ?_ | refine zS4 ?_ | refine zInc ?_ | refine zQ1 ?_ | refine zQ2 ?_ | refine zQ3 ?_ | refine zQ4 ?_ | refine zQ5 ?_ | refine zQ6 ?_) | (refine zkI ?_; first | refine zN1 (fun hlen => ?_) | refine zN2 (fun hlen => ?_) | refine zN3 ?_ | refine zN4 ?_ | refine zAp (fun _ => ?_)) | refine zS ?_ | refine zAl (fun _ => ?_) | refine zBx (fun _ => ?_) | refine zPt ?_ | refine zPf ?_ | refine zE ?_ | refine zEA ?_ | refine zNot ?_ | refine zBd ?_ | refine zBs ?_ | refine zFn ?_ | refine zK1 ?_ | refine zK2 ?_)
            refine w_nil ?_
            exact ⟨_, x_wkd 3 ⟨rfl, trivial⟩ rfl (by repeat (first | exact ag_refl | refine ag_upd rfl ?_ | refine ag_at rfl rfl ?_))⟩
        · apply w_a; (focus exact rfl); (focus exact rfl); refine v_alloc tok rfl rfl rfl (fun _ => rfl) (fun _ => ⟨⟨_, rfl⟩, ?_⟩)
          refine w_nil ?_
          refine wt_fin ?_
          apply w_l; (focus exact rfl); (focus exact rfl); (refine zCallG [0] c3 ?_; rintro _ _ ⟨rfl, rfl⟩; refine ⟨_, _, re_refl, rfl, rfl, ?_⟩)
          apply w_l; (focus exact rfl); (focus exact rfl); (refine zCallG [0] c4 ?_; rintro _ _ ⟨rfl, rfl⟩; refine ⟨_, _, re_refl, rfl, rfl, ?_⟩)
          apply w_l; (focus exact rfl); (focus exact rfl); (refine zCallG [0] c5 ?_; rintro _ _ ⟨rfl, rfl⟩; refine ⟨_, _, re_refl, rfl, rfl, ?_⟩)
          refine gW ?_
          apply w_l; (focus exact rfl); (focus exact rfl); (first | (refine zkL ?_; first | refine zL1 ?_ | refine zL2 ?_ | refine zL3 ?_ | refine zLp ?_) | refine zM ?_ | (refine zkF ?_; first | refine zF1 ?_ | refine zF2 ?_ | refine zF3 ?_) | refine zA ?_ | (refine zkB ?_; first | refine zC5 ?_ | refine zC6 ?_ | refine zC1 ?_ | refine zC2 ?_ | refine zC3 ?_ | refine zC4 ?_ | refine zS5 ?_ | refine zS6 ?_ | refine zS1 ?_ | refine zS2 ?_ | refine zS3 ?_ | refine zS4 ?_ | refine zInc ?_ | refine zQ1 ?_ | refine zQ2 ?_ | refine zQ3 ?_ | refine zQ4 ?_ | refine zQ5 ?_ | refine zQ6 ?_) | (refine zkI ?_; first | refine zN1 (fun hlen => ?_) | refine zN2 (fun hlen => ?_) | refine zN3 ?_ | refine zN4 ?_ | refine zAp (fun _ => ?_)) | refine zS ?_ | refine zAl (fun _ => ?_) | refine zBx (fun _ => ?_) | refine zPt ?_ | refine zPf ?_ | refine zE ?_ | refine zEA ?_ | refine zNot ?_ | refine zBd ?_ | refine zBs ?_ | refine zFn ?_ | refine zK1 ?_ | refine zK2 ?_)
          refine w_nil ?_
          exact ⟨_, x_wkd 3 ⟨rfl, trivial⟩ rfl (by repeat (first | exact ag_refl | refine ag_upd rfl ?_ | refine ag_at rfl rfl ?_))⟩
      · apply w_a; (focus exact rfl); (focus exact rfl); refine v_alloc tok rfl rfl rfl (fun _ => rfl) (fun _ => ⟨⟨_, rfl⟩, ?_⟩)
        refine w_nil ?_
        refine wt_fin ?_
        apply w_l; (focus exact rfl); (focus exact rfl); (refine zCallG [0] c2 ?_; rintro _ _ ⟨rfl, rfl⟩; refine ⟨_, _, re_refl, rfl, rfl, ?_⟩)
        apply w_l; (focus exact rfl); (focus exact rfl); (refine zCallG [0] c3 ?_; rintro _ _ ⟨rfl, rfl⟩; refine ⟨_, _, re_refl, rfl, rfl, ?_⟩)
        apply w_l; (focus exact rfl); (focus exact rfl); (refine zCallG [0] c4 ?_; rintro _ _ ⟨rfl, rfl⟩; refine ⟨_, _, re_refl, rfl, rfl, ?_⟩)
        apply w_l; (focus exact rfl); (focus exact rfl); (refine zCallG [0] c5 ?_; rintro _ _ ⟨rfl, rfl⟩; refine ⟨_, _, re_refl, rfl, rfl, ?_⟩)
        refine gW ?_
        apply w_l; (focus exact rfl); (focus exact rfl); (first | (refine zkL ?_; first | refine zL1 ?_ | refine zL2 ?_ | refine zL3 ?_ | refine zLp ?_) | refine zM ?_ | (refine zkF ?_; first | refine zF1 ?_ | refine zF2 ?_ | refine zF3 ?_) | refine zA ?_ | (refine zkB ?_; first | refine zC5 ?_ | refine zC6 ?_ | refine zC1 ?_ | refine zC2 ?_ | refine zC3 ?_ | refine zC4 ?_ | refine zS5 ?_ | refine zS6 ?_ | refine zS1 ?_ | refine zS2 ?_ | refine zS3 ?_ | refine zS4 ?_ | refine zInc ?_ | refine zQ1 ?_ | refine zQ2 ?_ | refine zQ3 ?_ | refine zQ4 ?_ | refine zQ5 ?_ | refine zQ6 ?_) | (refine zkI ?_; first | refine zN1 (fun hlen => ?_) | refine zN2 (fun hlen => ?_) | refine zN3 ?_ | refine zN4 ?_ | refine zAp (fun _ => ?_)) | refine zS ?_ | refine zAl (fun _ => ?_) | refine zBx (fun _ => ?_) | refine zPt ?_ | refine zPf ?_ | refine zE ?_ | refine zEA ?_ | refine zNot ?_ | refine zBd ?_ | refine zBs ?_ | refine zFn ?_ | refine zK1 ?_ | refine zK2 ?_)
        refine w_nil ?_
        exact ⟨_, x_wkd 3 ⟨rfl, trivial⟩ rfl (by repeat (first | exact ag_refl | refine ag_upd rfl ?_ | refine ag_at rfl rfl ?_))⟩
    · apply w_a; (focus exact rfl); (focus exact rfl); refine v_alloc tok rfl rfl rfl (fun _ => rfl) (fun _ => ⟨⟨_, rfl⟩, ?_⟩)
      refine w_nil ?_
      refine wt_fin ?_
      apply w_l; (focus exact rfl); (focus exact rfl); (refine zCallG [0] c1 ?_; rintro _ _ ⟨rfl, rfl⟩; refine ⟨_, _, re_refl, rfl, rfl, ?_⟩)
      apply w_l; (focus exact rfl); (focus exact rfl); (refine zCallG [0] c2 ?_; rintro _ _ ⟨rfl, rfl⟩; refine ⟨_, _, re_refl, rfl, rfl, ?_⟩)
      apply w_l; (focus exact rfl); (focus exact rfl); (refine zCallG [0] c3 ?_; rintro _ _ ⟨rfl, rfl⟩; refine ⟨_, _, re_refl, rfl, rfl, ?_⟩)
      apply w_l; (focus exact rfl); (focus exact rfl); (refine zCallG [0] c4 ?_; rintro _ _ ⟨rfl, rfl⟩; refine ⟨_, _, re_refl, rfl, rfl, ?_⟩)
      apply w_l; (focus exact rfl); (focus exact rfl); (refine zCallG [0] c5 ?_; rintro _ _ ⟨rfl, rfl⟩; refine ⟨_, _, re_refl, rfl, rfl, ?_⟩)
      refine gW ?_
      apply w_l; (focus exact rfl); (focus exact rfl); (first | (refine zkL ?_; first | refine zL1 ?_ | refine zL2 ?_ | refine zL3 ?_ | refine zLp ?_) | refine zM ?_ | (refine zkF ?_; first | refine zF1 ?_ | refine zF2 ?_ | refine zF3 ?_) | refine zA ?_ | (refine zkB ?_; first | refine zC5 ?_ | refine zC6 ?_ | refine zC1 ?_ | refine zC2 ?_ | refine zC3 ?_ | refine zC4 ?_ | refine zS5 ?_ | refine zS6 ?_ | refine zS1 ?_ | refine zS2 ?_ | refine zS3 ?_ | refine zS4 ?_ | refine zInc ?_ | refine zQ1 ?_ | refine zQ2 ?_ | refine zQ3 ?_ | refine zQ4 ?_ | refine zQ5 ?_ | refine zQ6 ?_) | (refine zkI ?_; first | refine zN1 (fun hlen => ?_) | refine zN2 (fun hlen => ?_) | refine zN3 ?_ | refine zN4 ?_ | refine zAp (fun _ => ?_)) | refine zS ?_ | refine zAl (fun _ => ?_) | refine zBx (fun _ => ?_) | refine zPt ?_ | refine zPf ?_ | refine zE ?_ | refine zEA ?_ | refine zNot ?_ | refine zBd ?_ | refine zBs ?_ | refine zFn ?_ | refine zK1 ?_ | refine zK2 ?_)
      refine w_nil ?_
      exact ⟨_, x_wkd 3 ⟨rfl, trivial⟩ rfl (by repeat (first | exact ag_refl | refine ag_upd rfl ?_ | refine ag_at rfl rfl ?_))⟩
  intro b3
  cases d1 : decide ((k : Int) = 1)
  · have h1 : ¬ k = 1 := by have := of_decide_eq_false d1; omega
    rw [if_neg h1]
    repeat (first | refine gG ?_ | refine zAl (fun _ => ?_))
    refine zG ?_
    exact ⟨re_cls (by repeat (first | exact rzs_nil | apply rzs_cons | exact rz_c | exact rz_nil rfl | apply rz_agg | exact rz_own rfl | apply rz_fn | exact rz_ptr rfl | apply rz_tup)), rfl⟩
  · have h1 : k = 1 := by have := of_decide_eq_true d1; omega
    rw [if_pos h1]
    repeat (first | refine gG ?_ | refine zAl (fun _ => ?_))
    refine zCallG [0] c6 ?_
    rintro _ _ ⟨rfl, rfl⟩
    refine ⟨_, _, re_refl, rfl, rfl, ?_⟩
    repeat (first | refine gG ?_ | refine zAl (fun _ => ?_))
    refine zG ?_
    exact ⟨re_cls (by repeat (first | exact rzs_nil | apply rzs_cons | exact rz_c | exact rz_nil rfl | apply rz_agg | exact rz_own rfl | apply rz_fn | exact rz_ptr rfl | apply rz_tup)), rfl⟩
def OutL (x : Lt) (e : Int) (t : T) : Prop := t = .tup [x.t, .lit (.int .i64 e)]
set_option maxRecDepth 100000 in
set_option maxHeartbeats 4000000 in
theorem readL_af (l : List UInt8) (hl : l.length ≤ 1099511627776) : AF Tryz.prog 90 [bytRow l, .fn (.func 85) [], .fn (.func 65) []] (OutL (rdL l).1 (rdL l).2) := by
  have h1 := fun b => letterR_ag b ⟨l, false, 0⟩ (by simp) hl
  unfold rdL
  generalize rLet ⟨l, false, 0⟩ = q at *
  obtain ⟨x, s⟩ := q
  dsimp only at h1 ⊢
  have h2 := checkLetter_af x
  generalize x.check = e at *
  obtain ⟨k, fm, tt, n, t, ⟨kv, nv, tv, lv⟩⟩ := x
  refine af_enter tok Tryz.func90 Tryz.ntmps90 Tryz.results90 rfl (by kernel_rfl) rfl rfl fun F hX => ?_
  repeat (first | refine gG ?_ | refine zAl (fun _ => ?_) | refine zBx (fun _ => ?_))
  refine zCallGc [1] (h1 _) ?_
  rintro _ _ ⟨rfl, rfl⟩
  refine ⟨_, _, re_refl, rfl, rfl, ?_⟩
  repeat (first | refine gG ?_ | refine zAl (fun _ => ?_) | refine zBx (fun _ => ?_))
  refine zCallG [1] (doneR_ag _ s) ?_
  rintro _ _ ⟨rfl, rfl⟩
  refine ⟨_, _, re_refl, rfl, rfl, ?_⟩
  cases d1 : (!s.bad && decide (s.l = []))
  · repeat (first | refine gG ?_ | refine zAl (fun _ => ?_) | refine zBx (fun _ => ?_))
    first | refine zR (ts := [Lt.zero.t, .lit (.int .i64 3)]) ?_ | refine zQ (ts := [Lt.zero.t, .lit (.int .i64 3)]) ?_
    rfl
  · repeat (first | refine gG ?_ | refine zAl (fun _ => ?_) | refine zBx (fun _ => ?_))
    refine zCallc (h2) ?_
    rintro _ rfl
    cases d2 : decide (e = 0)
    · repeat (first | refine gG ?_ | refine zAl (fun _ => ?_) | refine zBx (fun _ => ?_))
      first | refine zR (ts := [Lt.zero.t, .lit (.int .i64 3)]) ?_ | refine zQ (ts := [Lt.zero.t, .lit (.int .i64 3)]) ?_
      rfl
    · repeat (first | refine gG ?_ | refine zAl (fun _ => ?_) | refine zBx (fun _ => ?_))
      first | refine zR (ts := [(Lt.mk k fm tt n t (.mk kv nv tv lv)).t, .lit (.int .i64 0)]) ?_ | refine zQ (ts := [(Lt.mk k fm tt n t (.mk kv nv tv lv)).t, .lit (.int .i64 0)]) ?_
      rfl
set_option maxRecDepth 100000 in
set_option maxHeartbeats 4000000 in
theorem readLetter_af (l : List UInt8) : AF Tryz.prog 62 [bytRow l] (OutL (rdLet l).1 (rdLet l).2) := by
  unfold rdLet
  by_cases h : 2097152 < l.length
  · rw [if_pos h]
    have d1 : decide ((2097152 : Int) < (l.length : Int)) = true := decide_eq_true (by omega)
    refine af_enter tok Tryz.func62 Tryz.ntmps62 Tryz.results62 rfl (by kernel_rfl) rfl rfl fun F hX => ?_
    repeat (first | refine gG ?_ | refine zN1 (fun hlen => ?_) | refine zN2 (fun hlen => ?_) | refine zAl (fun _ => ?_))
    first | refine zR (ts := [Lt.zero.t, .lit (.int .i64 2)]) ?_ | refine zQ (ts := [Lt.zero.t, .lit (.int .i64 2)]) ?_
    rfl
  · rw [if_neg h]
    have d1 : decide ((2097152 : Int) < (l.length : Int)) = false := decide_eq_false (by omega)
    have h1 := readL_af l (by omega)
    generalize rdL l = q at *
    obtain ⟨⟨k, fm, tt, n, t, ⟨kv, nv, tv, lv⟩⟩, e⟩ := q
    dsimp only at h1 ⊢
    refine af_enter tok Tryz.func62 Tryz.ntmps62 Tryz.results62 rfl (by kernel_rfl) rfl rfl fun F hX => ?_
    repeat (first | refine gG ?_ | refine zN1 (fun hlen => ?_) | refine zN2 (fun hlen => ?_) | refine zAl (fun _ => ?_))
    refine zCall (h1) ?_
    rintro _ rfl
    repeat (first | refine gG ?_ | refine zN1 (fun hlen => ?_) | refine zN2 (fun hlen => ?_) | refine zAl (fun _ => ?_))
    first | refine zR (ts := [(Lt.mk k fm tt n t (.mk kv nv tv lv)).t, .lit (.int .i64 e)]) ?_ | refine zQ (ts := [(Lt.mk k fm tt n t (.mk kv nv tv lv)).t, .lit (.int .i64 e)]) ?_
    rfl
set_option maxRecDepth 100000 in
set_option maxHeartbeats 4000000 in
theorem letterT_ag (b : Nat) (s : TS) : AG Tryz.prog 45 [.ptr 0 b 0] [tkB b s] (Takes b (tLet s).1.t (tLet s).2) := by
  unfold tLet
  dsimp only
  have c1 := one_ag b s
  generalize tOne s = q1 at *
  obtain ⟨k, s1⟩ := q1
  dsimp only at c1 ⊢
  have c2 := tnat_ag b s1
  generalize tNat s1 = q2 at *
  obtain ⟨fm, s2⟩ := q2
  dsimp only at c2 ⊢
  have c3 := tnat_ag b s2
  generalize tNat s2 = q3 at *
  obtain ⟨tt, s3⟩ := q3
  dsimp only at c3 ⊢
  have c4 := tnat_ag b s3
  generalize tNat s3 = q4 at *
  obtain ⟨n, s4⟩ := q4
  dsimp only at c4 ⊢
  have c5 := ttext_ag b s4
  generalize tText s4 = q5 at *
  obtain ⟨t, s5⟩ := q5
  dsimp only at c5 ⊢
  have c6 := whole_ag b s5
  generalize tWhole s5 = q6 at *
  obtain ⟨⟨kv, nv, tv, lv⟩, s6⟩ := q6
  dsimp only at c6 ⊢
  refine AG.re (R := fun r hs => Re r (.c (if k = 1 ∧ s5.ok = true then (Lt.mk k fm tt n (bs t) (.mk kv nv tv lv), s6) else (Lt.mk k fm tt n (bs t) V.zero, s5)).1.t) ∧ hs = [tkB b (if k = 1 ∧ s5.ok = true then (Lt.mk k fm tt n (bs t) (.mk kv nv tv lv), s6) else (Lt.mk k fm tt n (bs t) V.zero, s5)).2]) ?_ (fun r hs h => ⟨_, h.1, rfl, h.2⟩)
  refine ag_enter 1 tok Tryz.func45 Tryz.ntmps45 Tryz.results45 rfl (by kernel_rfl) rfl fun F => ?_
  repeat (first | refine gG ?_ | refine zAl (fun _ => ?_))
  refine zCallG [0] c1 ?_
  rintro _ _ ⟨rfl, rfl⟩
  refine ⟨_, _, re_refl, rfl, rfl, ?_⟩
  repeat (first | refine gG ?_ | refine zAl (fun _ => ?_))
  refine zCallG [0] c2 ?_
  rintro _ _ ⟨rfl, rfl⟩
  refine ⟨_, _, re_refl, rfl, rfl, ?_⟩
  repeat (first | refine gG ?_ | refine zAl (fun _ => ?_))
  refine zCallG [0] c3 ?_
  rintro _ _ ⟨rfl, rfl⟩
  refine ⟨_, _, re_refl, rfl, rfl, ?_⟩
  repeat (first | refine gG ?_ | refine zAl (fun _ => ?_))
  refine zCallG [0] c4 ?_
  rintro _ _ ⟨rfl, rfl⟩
  refine ⟨_, _, re_refl, rfl, rfl, ?_⟩
  repeat (first | refine gG ?_ | refine zAl (fun _ => ?_))
  refine zCallG [0] c5 ?_
  rintro _ _ ⟨rfl, rfl⟩
  refine ⟨_, _, re_refl, rfl, rfl, ?_⟩
  cases d1 : decide ((k : Int) = 1)
  · have h1 : ¬ (k = 1 ∧ s5.ok = true) := fun h => by have := of_decide_eq_false d1; omega
    rw [if_neg h1]
    repeat (first | refine gG ?_ | refine zAl (fun _ => ?_))
    refine zG ?_
    exact ⟨re_cls (by repeat (first | exact rzs_nil | apply rzs_cons | exact rz_c | exact rz_nil rfl | apply rz_agg | exact rz_own rfl | apply rz_fn | exact rz_ptr rfl | apply rz_tup)), rfl⟩
  · have h0 : k = 1 := by have := of_decide_eq_true d1; omega
    cases d2 : s5.ok
    · rw [if_neg (fun h => by cases h.2)]
      repeat (first | refine gG ?_ | refine zAl (fun _ => ?_))
      refine zG ?_
      exact ⟨re_cls (by repeat (first | exact rzs_nil | apply rzs_cons | exact rz_c | exact rz_nil rfl | apply rz_agg | exact rz_own rfl | apply rz_fn | exact rz_ptr rfl | apply rz_tup)), rfl⟩
    · rw [if_pos ⟨h0, rfl⟩]
      repeat (first | refine gG ?_ | refine zAl (fun _ => ?_))
      refine zCallG [0] c6 ?_
      rintro _ _ ⟨rfl, rfl⟩
      refine ⟨_, _, re_refl, rfl, rfl, ?_⟩
      repeat (first | refine gG ?_ | refine zAl (fun _ => ?_))
      refine zG ?_
      exact ⟨re_cls (by repeat (first | exact rzs_nil | apply rzs_cons | exact rz_c | exact rz_nil rfl | apply rz_agg | exact rz_own rfl | apply rz_fn | exact rz_ptr rfl | apply rz_tup)), rfl⟩
set_option maxRecDepth 100000 in
set_option maxHeartbeats 4000000 in
theorem letterOf_af (l : List UInt8) : AF Tryz.prog 19 [bytRow l] (OutL (tdLet l).1 (tdLet l).2) := by
  unfold tdLet
  by_cases h : 2097152 < l.length
  · rw [if_pos h]
    have d1 : decide ((2097152 : Int) < (l.length : Int)) = true := decide_eq_true (by omega)
    refine af_enter tok Tryz.func19 Tryz.ntmps19 Tryz.results19 rfl (by kernel_rfl) rfl rfl fun F hX => ?_
    repeat (first | refine gG ?_ | refine zN1 (fun hlen => ?_) | refine zN2 (fun hlen => ?_) | refine zAl (fun _ => ?_) | refine zBx (fun _ => ?_))
    first | refine zR (ts := [Lt.zero.t, .lit (.int .i64 2)]) ?_ | refine zQ (ts := [Lt.zero.t, .lit (.int .i64 2)]) ?_
    rfl
  · rw [if_neg h]
    have d1 : decide ((2097152 : Int) < (l.length : Int)) = false := decide_eq_false (by omega)
    have h1 := fun b => letterT_ag b ⟨l, true⟩
    have hsm := tLet_small ⟨l, true⟩
    unfold tdL
    generalize tLet ⟨l, true⟩ = q at *
    obtain ⟨x, s⟩ := q
    dsimp only at h1 hsm ⊢
    have h2 := letterBytes_af x hsm
    have e3 : decide ((0 : Int) < (s.l.length : Int)) = decide (0 < s.l.length) := by
      by_cases hz : 0 < s.l.length
      · rw [decide_eq_true hz, decide_eq_true (by omega)]
      · rw [decide_eq_false hz, decide_eq_false (by omega)]
    generalize x.out = o at *
    generalize x.check = e at *
    obtain ⟨k, fm, tt, n, t, ⟨kv, nv, tv, lv⟩⟩ := x
    refine af_enter tok Tryz.func19 Tryz.ntmps19 Tryz.results19 rfl (by kernel_rfl) rfl rfl fun F hX => ?_
    repeat (first | refine gG ?_ | refine zN1 (fun hlen => ?_) | refine zN2 (fun hlen => ?_) | refine zAl (fun _ => ?_) | refine zBx (fun _ => ?_))
    refine zCallG [1] (h1 _) ?_
    rintro _ _ ⟨rfl, rfl⟩
    refine ⟨_, _, re_refl, rfl, rfl, ?_⟩
    repeat (first | refine gG ?_ | refine zN1 (fun hlen => ?_) | refine zN2 (fun hlen => ?_) | refine zAl (fun _ => ?_) | refine zBx (fun _ => ?_))
    refine zCall (h2) ?_
    rintro _ rfl
    cases g1 : s.ok
    · repeat (first | refine gG ?_ | refine zN1 (fun hlen => ?_) | refine zN2 (fun hlen => ?_) | refine zAl (fun _ => ?_) | refine zBx (fun _ => ?_))
      first | refine zR (ts := [Lt.zero.t, .lit (.int .i64 3)]) ?_ | refine zQ (ts := [Lt.zero.t, .lit (.int .i64 3)]) ?_
      rfl
    cases g2 : decide (0 < s.l.length)
    rotate_left
    · have g2' := e3.trans g2
      repeat (first | refine gG ?_ | refine zN1 (fun hlen => ?_) | refine zN2 (fun hlen => ?_) | refine zAl (fun _ => ?_) | refine zBx (fun _ => ?_))
      first | refine zR (ts := [Lt.zero.t, .lit (.int .i64 3)]) ?_ | refine zQ (ts := [Lt.zero.t, .lit (.int .i64 3)]) ?_
      rfl
    have g2' := e3.trans g2
    cases g3 : decide (e = 0)
    · repeat (first | refine gG ?_ | refine zN1 (fun hlen => ?_) | refine zN2 (fun hlen => ?_) | refine zAl (fun _ => ?_) | refine zBx (fun _ => ?_))
      first | refine zR (ts := [Lt.zero.t, .lit (.int .i64 3)]) ?_ | refine zQ (ts := [Lt.zero.t, .lit (.int .i64 3)]) ?_
      rfl
    repeat (first | refine gG ?_ | refine zN1 (fun hlen => ?_) | refine zN2 (fun hlen => ?_) | refine zAl (fun _ => ?_) | refine zBx (fun _ => ?_))
    refine zStr o rfl rfl ?_
    repeat (first | refine gG ?_ | refine zN1 (fun hlen => ?_) | refine zN2 (fun hlen => ?_) | refine zAl (fun _ => ?_) | refine zBx (fun _ => ?_))
    refine zStr l rfl rfl ?_
    cases g4 : decide (bs o = bs l)
    · repeat (first | refine gG ?_ | refine zN1 (fun hlen => ?_) | refine zN2 (fun hlen => ?_) | refine zAl (fun _ => ?_) | refine zBx (fun _ => ?_))
      first | refine zR (ts := [Lt.zero.t, .lit (.int .i64 3)]) ?_ | refine zQ (ts := [Lt.zero.t, .lit (.int .i64 3)]) ?_
      rfl
    · repeat (first | refine gG ?_ | refine zN1 (fun hlen => ?_) | refine zN2 (fun hlen => ?_) | refine zAl (fun _ => ?_) | refine zBx (fun _ => ?_))
      first | refine zR (ts := [(Lt.mk k fm tt n t (.mk kv nv tv lv)).t, .lit (.int .i64 0)]) ?_ | refine zQ (ts := [(Lt.mk k fm tt n t (.mk kv nv tv lv)).t, .lit (.int .i64 0)]) ?_
      rfl
end Go.Proofs.YthgackidonocpaaGreat
