/-
  Texts of this proof, part 9: TlwB Tqw Ab27.
-/
import Derived.Test.YthgackidonocpaaQStoreWritten8
import Derived.Lib.MinMax
import Derived.MapKept
namespace Go.Proofs.Ythgackidonocpaa
open Go.RowKit
set_option maxRecDepth 100000 in
set_option maxHeartbeats 4000000 in
theorem appendLetter_ag {k : Int} {fm tt n : Nat} {t : ByteArray} {v : V} (hfm : fm < 9223372036854775808) (htt : tt < 9223372036854775808) (hn : n < 9223372036854775808) (hok : v.ok) (w : Value) (b : List UInt8) (hb : b.length + (Lt.mk k fm tt n t v).bytes.length ≤ 1099511627776) :
    AG Try.prog 87 [.own 0 w, .c (Lt.mk k fm tt n t v).t] [.row w 5 1 b.length (byts b)] (Grew 5 (b ++ (Lt.mk k fm tt n t v).bytes)) := by
  have e0 : (Lt.mk k fm tt n t v).bytes = kb k :: (uv fm ++ (uv tt ++ (uv n ++ (uv t.size ++ (t.data.toList ++ (if k = 1 then v.bytes else [])))))) := by simp only [Lt.bytes, Int.toNat_natCast]
  rw [e0] at hb ⊢
  simp only [List.length_append, List.length_cons, sz_len] at hb
  have hi1 : ∀ v1, AG Try.prog 169 [.own 0 v1, .c (.lit (.int .i64 (fm : Int)))] [.row v1 5 1 (b.length + 1) (byts b ++ [.lit (.int .u8 (IntKind.u8.wrap k))])] (Grew 5 (b ++ (kb k :: uv fm))) := by
    intro v1
    have h := nat_ag v1 (b ++ [kb k]) fm hfm (by simp only [List.length_append, List.length_cons, List.length_nil]; omega)
    rw [← kb_T]
    simpa [byts] using h
  have hi2 := fun v2 => nat_ag v2 (b ++ (kb k :: uv fm)) tt htt (by simp only [List.length_append, List.length_cons, List.length_nil, sz_len]; omega)
  have hi3 := fun v3 => nat_ag v3 (b ++ (kb k :: uv fm) ++ uv tt) n hn (by simp only [List.length_append, List.length_cons, List.length_nil, sz_len]; omega)
  have hi4 := fun v4 => text_ag v4 (b ++ (kb k :: uv fm) ++ uv tt ++ uv n) t (by simp only [List.length_append, List.length_cons, List.length_nil, sz_len]; omega)
  by_cases hk : k = 1
  · rw [if_pos hk] at hb ⊢
    have hi5 := fun v5 => appendValue_ag v hok v5 (b ++ (kb k :: uv fm) ++ uv tt ++ uv n ++ (uv t.size ++ t.data.toList)) (by simp only [List.length_append, List.length_cons, List.length_nil, sz_len]; omega)
    have d1 : decide (k = 1) = true := decide_eq_true hk
    obtain ⟨kv, nv, tv, lv⟩ := v
    refine ag_enter 1 tok Try.func87 Try.ntmps87 Try.results87 rfl (by kernel_rfl) rfl fun F => ?_
    repeat (first | refine gG ?_ | refine zBf ?_ | refine zAp (fun _ => ?_))
    refine ac_draw [1, 1, 1, 1, 1, 2, 0, 0, 2, 0, 0, 2, 1] [0, 1, 2, 3, 4, 6, 7, 9, 10, 5, 8, 11, 12] (by kernel_rfl) (by kernel_rfl) ?_
    refine gW ?_
    apply w_q; (focus exact rfl); (focus exact rfl); focus (intro _; (refine lo_conv tok rfl rfl rfl rfl rfl ?_); exact det_refl)
    refine gW ?_
    apply w_l; (focus exact rfl); (focus exact rfl); (first | (refine zkL ?_; first | refine zL1 ?_ | refine zL2 ?_ | refine zL3 ?_ | refine zLp ?_) | refine zM ?_ | (refine zkF ?_; first | refine zF1 ?_ | refine zF2 ?_ | refine zF3 ?_) | refine zA ?_ | (refine zkB ?_; first | refine zC5 ?_ | refine zC6 ?_ | refine zC1 ?_ | refine zC2 ?_ | refine zC3 ?_ | refine zC4 ?_ | refine zS5 ?_ | refine zS6 ?_ | refine zS1 ?_ | refine zS2 ?_ | refine zS3 ?_ | refine zS4 ?_ | refine zInc ?_ | refine zQ1 ?_ | refine zQ2 ?_ | refine zQ3 ?_ | refine zQ4 ?_ | refine zQ5 ?_ | refine zQ6 ?_) | (refine zkI ?_; first | refine zN1 (fun hlen => ?_) | refine zN2 (fun hlen => ?_) | refine zN3 ?_ | refine zN4 ?_ | refine zAp (fun _ => ?_)) | refine zS ?_ | refine zAl (fun _ => ?_) | refine zBx (fun _ => ?_) | refine zPt ?_ | refine zPf ?_ | refine zE ?_ | refine zEA ?_ | refine zNot ?_ | refine zBd ?_ | refine zBs ?_ | refine zFn ?_ | refine zK1 ?_ | refine zK2 ?_)
    apply w_l; (focus exact rfl); (focus exact rfl); (refine zCallG [0] (hi1 _) ?_; rintro _ _ ⟨v', rfl, rfl⟩; refine ⟨.own 0 v', _, re_own, rfl, rfl, ?_⟩)
    apply w_l; (focus exact rfl); (focus exact rfl); (refine zCallG [0] (hi2 _) ?_; rintro _ _ ⟨v', rfl, rfl⟩; refine ⟨.own 0 v', _, re_own, rfl, rfl, ?_⟩)
    refine gW ?_
    refine w_nil ?_
    repeat (first | refine gG ?_ | refine zBx (fun _ => ?_) | refine zAp (fun _ => ?_))
    refine ac_draw [1, 1, 1, 2, 0, 0, 2, 1] [0, 1, 2, 4, 5, 3, 6, 7] (by kernel_rfl) (by kernel_rfl) ?_
    refine gW ?_
    apply w_l; (focus exact rfl); (focus exact rfl); (refine zCallG [0] (hi3 _) ?_; rintro _ _ ⟨v', rfl, rfl⟩; refine ⟨.own 0 v', _, re_own, rfl, rfl, ?_⟩)
    apply w_l; (focus exact rfl); (focus exact rfl); (refine zCallG [0] (hi4 _) ?_; rintro _ _ ⟨v', rfl, rfl⟩; refine ⟨.own 0 v', _, re_own, rfl, rfl, ?_⟩)
    refine gW ?_
    refine w_nil ?_
    repeat (first | refine gG ?_ | refine zBx (fun _ => ?_) | refine zAp (fun _ => ?_))
    refine zCallG [0] (hi5 _) ?_
    rintro _ _ ⟨v', rfl, rfl⟩
    refine ⟨.own 0 v', _, re_own, rfl, rfl, ?_⟩
    repeat (first | refine gG ?_ | refine zBx (fun _ => ?_) | refine zAp (fun _ => ?_))
    refine zG ?_
    exact ⟨_, rfl, by simp only [List.append_assoc, List.cons_append]⟩
  · rw [if_neg hk] at hb ⊢
    have d1 : decide (k = 1) = false := decide_eq_false hk
    obtain ⟨kv, nv, tv, lv⟩ := v
    refine ag_enter 1 tok Try.func87 Try.ntmps87 Try.results87 rfl (by kernel_rfl) rfl fun F => ?_
    repeat (first | refine gG ?_ | refine zBf ?_ | refine zAp (fun _ => ?_))
    refine ac_draw [1, 1, 1, 1, 1, 2, 0, 0, 2, 0, 0, 2, 1] [0, 1, 2, 3, 4, 6, 7, 9, 10, 5, 8, 11, 12] (by kernel_rfl) (by kernel_rfl) ?_
    refine gW ?_
    apply w_q; (focus exact rfl); (focus exact rfl); focus (intro _; (refine lo_conv tok rfl rfl rfl rfl rfl ?_); exact det_refl)
    refine gW ?_
    apply w_l; (focus exact rfl); (focus exact rfl); (first | (refine zkL ?_; first | refine zL1 ?_ | refine zL2 ?_ | refine zL3 ?_ | refine zLp ?_) | refine zM ?_ | (refine zkF ?_; first | refine zF1 ?_ | refine zF2 ?_ | refine zF3 ?_) | refine zA ?_ | (refine zkB ?_; first | refine zC5 ?_ | refine zC6 ?_ | refine zC1 ?_ | refine zC2 ?_ | refine zC3 ?_ | refine zC4 ?_ | refine zS5 ?_ | refine zS6 ?_ | refine zS1 ?_ | refine zS2 ?_ | refine zS3 ?_ | refine zS4 ?_ | refine zInc ?_ | refine zQ1 ?_ | refine zQ2 ?_ | refine zQ3 ?_ | refine zQ4 ?_ | refine zQ5 ?_ | refine zQ6 ?_) | (refine zkI ?_; first | refine zN1 (fun hlen => ?_) | refine zN2 (fun hlen => ?_) | refine zN3 ?_ | refine zN4 ?_ | refine zAp (fun _ => ?_)) | refine zS ?_ | refine zAl (fun _ => ?_) | refine zBx (fun _ => ?_) | refine zPt ?_ | refine zPf ?_ | refine zE ?_ | refine zEA ?_ | refine zNot ?_ | refine zBd ?_ | refine zBs ?_ | refine zFn ?_ | refine zK1 ?_ | refine zK2 ?_)
    apply w_l; (focus exact rfl); (focus exact rfl); (refine zCallG [0] (hi1 _) ?_; rintro _ _ ⟨v', rfl, rfl⟩; refine ⟨.own 0 v', _, re_own, rfl, rfl, ?_⟩)
    apply w_l; (focus exact rfl); (focus exact rfl); (refine zCallG [0] (hi2 _) ?_; rintro _ _ ⟨v', rfl, rfl⟩; refine ⟨.own 0 v', _, re_own, rfl, rfl, ?_⟩)
    refine gW ?_
    refine w_nil ?_
    repeat (first | refine gG ?_ | refine zBx (fun _ => ?_) | refine zAp (fun _ => ?_))
    refine ac_draw [1, 1, 1, 2, 0, 0, 2, 1] [0, 1, 2, 4, 5, 3, 6, 7] (by kernel_rfl) (by kernel_rfl) ?_
    refine gW ?_
    apply w_l; (focus exact rfl); (focus exact rfl); (refine zCallG [0] (hi3 _) ?_; rintro _ _ ⟨v', rfl, rfl⟩; refine ⟨.own 0 v', _, re_own, rfl, rfl, ?_⟩)
    apply w_l; (focus exact rfl); (focus exact rfl); (refine zCallG [0] (hi4 _) ?_; rintro _ _ ⟨v', rfl, rfl⟩; refine ⟨.own 0 v', _, re_own, rfl, rfl, ?_⟩)
    refine gW ?_
    refine w_nil ?_
    repeat (first | refine gG ?_ | refine zBx (fun _ => ?_) | refine zAp (fun _ => ?_))
    refine zG ?_
    exact ⟨_, rfl, by simp only [List.append_assoc, List.cons_append, List.append_nil]⟩
theorem Lt.bytes_le {x : Lt} (h : x.Small) : x.bytes.length ≤ 2000000100 := by
  obtain ⟨k, fm, tt, n, t, v⟩ := x
  obtain ⟨h1, h2, h3, h4⟩ := h
  simp only [Lt.val] at h1 h2 h3
  obtain ⟨a1, a2, a3, a4⟩ := h4
  unfold inI at a1 a2 a3
  have u1 := uv_len64 (n := fm.toNat) (by omega)
  have u2 := uv_len64 (n := tt.toNat) (by omega)
  have u3 := uv_len64 (n := n.toNat) (by omega)
  have u4 := uv_len64 (n := t.size) (by omega)
  simp only [Lt.bytes, List.length_cons, List.length_append, sz_len]
  split
  · omega
  · simp only [List.length_nil]; omega
theorem nat_of {n : Int} (h : 0 ≤ n) : ∃ m : Nat, n = m := ⟨n.toNat, by omega⟩
set_option maxRecDepth 100000 in
set_option maxHeartbeats 4000000 in
theorem writtenL_af (x : Lt) (hs : x.Small) : AF Try.prog 86 [x.t, .fn (.func 28) [], .fn (.func 87) []] (Outs2 x.out x.check) := by
  have hc := checkLetter_af x
  have hbl := Lt.bytes_le hs
  unfold Lt.out
  by_cases hyes : x.check = 0
  · rw [if_pos hyes]
    obtain ⟨k, fm, tt, n, t, v⟩ := x
    have hR := Lt.right hyes
    obtain ⟨h1, h2, h3, h4⟩ := hs
    simp only [Lt.val] at h1 h2 h3
    obtain ⟨a1, a2, a3, a4⟩ := h4
    unfold inI at a1 a2 a3
    obtain ⟨fm, rfl⟩ := nat_of hR.fm0
    obtain ⟨tt, rfl⟩ := nat_of hR.tt0
    obtain ⟨n, rfl⟩ := nat_of hR.n0.1
    have ha := ag_nil (Nat.succ_pos 0) (appendLetter_ag (k := k) (t := t) (fm := fm) (tt := tt) (n := n) (by omega) (by omega) (by omega) h1 (.slice none 0 0) [] (by simp only [List.length_nil]; omega))
    rw [List.nil_append] at ha
    generalize (Lt.mk k fm tt n t v).bytes = o at *
    rw [hyes] at hc ⊢
    obtain ⟨kv, nv, tv, lv⟩ := v
    refine af_enter tok Try.func86 Try.ntmps86 Try.results86 rfl (by kernel_rfl) rfl rfl fun F hX => ?_
    repeat (first | refine gG ?_ | refine zBf ?_)
    refine zCallc (hc) ?_
    rintro _ rfl
    repeat (first | refine gG ?_ | refine zBx (fun _ => ?_))
    refine zCallGc [] ha ?_
    rintro _ _ ⟨v', rfl, rfl⟩
    refine ⟨.own 0 v', _, re_own, rfl, rfl, ?_⟩
    repeat (first | refine gG ?_ | refine zBx (fun _ => ?_))
    first | refine zR ?_ | refine zQ ?_
    rfl
  · rw [if_neg hyes]
    have d1 : decide (x.check = 0) = false := decide_eq_false hyes
    generalize x.check = e at *
    obtain ⟨k, fm, tt, n, t, ⟨kv, nv, tv, lv⟩⟩ := x
    refine af_enter tok Try.func86 Try.ntmps86 Try.results86 rfl (by kernel_rfl) rfl rfl fun F hX => ?_
    repeat (first | refine gG ?_ | refine zBf ?_)
    refine zCallc (hc) ?_
    rintro _ rfl
    repeat (first | refine gG ?_ | refine zBx (fun _ => ?_))
    first | refine zR (ts := [bytRow [], .lit (.int .i64 e)]) ?_ | refine zQ (ts := [bytRow [], .lit (.int .i64 e)]) ?_
    rfl
set_option maxRecDepth 100000 in
set_option maxHeartbeats 4000000 in
theorem letterW_af (x : Lt) (hs : x.Small) : AF Try.prog 26 [x.t] (Outs2 x.out x.check) := by
  have hc := writtenL_af x hs
  generalize x.out = o at *
  generalize x.check = e at *
  obtain ⟨k, fm, tt, n, t, ⟨kv, nv, tv, lv⟩⟩ := x
  refine af_enter tok Try.func26 Try.ntmps26 Try.results26 rfl (by kernel_rfl) rfl rfl fun F hX => ?_
  repeat (first | refine gG ?_ | refine zBf ?_)
  refine zCall (hc) ?_
  rintro _ rfl
  repeat (first | refine gG ?_ | refine zBx (fun _ => ?_))
  first | refine zR ?_ | refine zQ ?_
  rfl
set_option maxRecDepth 100000 in
set_option maxHeartbeats 4000000 in
theorem letterText_af {k : Int} {fm tt n : Nat} {t : ByteArray} {v : V} (hfm : fm < 9223372036854775808) (htt : tt < 9223372036854775808) (hn : n < 9223372036854775808) (hok : v.ok) (hb : (Lt.mk k fm tt n t v).bytes.length ≤ 1099511627776) : AF Try.prog 88 [(Lt.mk k fm tt n t v).t] (· = .lit (.string (bs (Lt.mk k fm tt n t v).bytes))) := by
  have e0 : (Lt.mk k fm tt n t v).bytes = kb k :: (uv fm ++ (uv tt ++ (uv n ++ (uv t.size ++ (t.data.toList ++ (if k = 1 then v.bytes else [])))))) := by simp only [Lt.bytes, Int.toNat_natCast]
  rw [e0] at hb ⊢
  simp only [List.length_append, List.length_cons, sz_len] at hb
  have h1 := rnat_af fm (by omega)
  have h2 := rnat_af tt (by omega)
  have h3 := rnat_af n (by omega)
  have h4 := rnat_af t.size (by omega)
  have w1 : IntKind.u64.wrap (fm : Int) = (fm : Int) := by rw [wrap_u64]; omega
  have w2 : IntKind.u64.wrap (tt : Int) = (tt : Int) := by rw [wrap_u64]; omega
  have w3 : IntKind.u64.wrap (n : Int) = (n : Int) := by rw [wrap_u64]; omega
  have w4 : IntKind.u64.wrap (t.size : Int) = (t.size : Int) := by rw [wrap_u64]; omega
  by_cases hk : k = 1
  · rw [if_pos hk] at hb ⊢
    have h5 := valueText_af v hok (by omega)
    have d1 : decide (k = 1) = true := decide_eq_true hk
    generalize hvb : v.bytes = vb at *
    obtain ⟨kv, nv, tv, lv⟩ := v
    refine af_enter tok Try.func88 Try.ntmps88 Try.results88 rfl (by kernel_rfl) rfl rfl fun F hX => ?_
    repeat (first | refine gG ?_ | refine zN1 (fun hlen => ?_) | refine zN2 (fun hlen => ?_) | refine zBf ?_)
    refine ac_draw [1, 1, 1, 1, 1, 1, 1, 1, 1, 1, 1, 1, 1, 1, 1, 1, 1, 1, 1, 1, 1, 1, 1, 1, 1, 1, 1, 1, 1, 1] [0, 1, 2, 3, 4, 5, 6, 7, 8, 9, 10, 11, 12, 13, 14, 15, 16, 17, 18, 19, 20, 21, 22, 23, 24, 25, 26, 27, 28, 29] (by kernel_rfl) (by kernel_rfl) ?_
    refine gW ?_
    apply w_q; (focus exact rfl); (focus exact rfl); focus (intro _; (refine lo_conv tok rfl rfl rfl rfl rfl ?_); exact det_refl)
    refine gW ?_
    apply w_q; (focus exact rfl); (focus exact rfl); focus (intro _; (refine zStr [kb k] (one_kb k) rfl ?_); exact det_refl)
    refine gW ?_
    apply w_q; (focus exact rfl); (focus exact rfl); focus (intro _; (refine lo_conv tok rfl rfl rfl rfl w1 ?_); exact det_refl)
    apply w_q; (focus exact rfl); (focus exact rfl); focus (intro _; (refine lo_call h1 rfl (by repeat (first | exact rzs_nil | apply rzs_cons | exact rz_c | exact rz_nil rfl | apply rz_agg | exact rz_own rfl | apply rz_fn | exact rz_ptr rfl | apply rz_tup)) ?_; rintro _ rfl); exact det_refl)
    apply w_q; (focus exact rfl); (focus exact rfl); focus (intro _; (refine zCatb ([kb k]) (uv fm) (by simp only [List.length_append, List.length_cons, List.length_nil, sz_len]; omega) ?_); exact det_refl)
    refine gW ?_
    apply w_q; (focus exact rfl); (focus exact rfl); focus (intro _; (refine lo_conv tok rfl rfl rfl rfl w2 ?_); exact det_refl)
    apply w_q; (focus exact rfl); (focus exact rfl); focus (intro _; (refine lo_call h2 rfl (by repeat (first | exact rzs_nil | apply rzs_cons | exact rz_c | exact rz_nil rfl | apply rz_agg | exact rz_own rfl | apply rz_fn | exact rz_ptr rfl | apply rz_tup)) ?_; rintro _ rfl); exact det_refl)
    apply w_q; (focus exact rfl); (focus exact rfl); focus (intro _; (refine zCatb ([kb k] ++ uv fm) (uv tt) (by simp only [List.length_append, List.length_cons, List.length_nil, sz_len]; omega) ?_); exact det_refl)
    refine gW ?_
    apply w_q; (focus exact rfl); (focus exact rfl); focus (intro _; (refine lo_conv tok rfl rfl rfl rfl w3 ?_); exact det_refl)
    apply w_q; (focus exact rfl); (focus exact rfl); focus (intro _; (refine lo_call h3 rfl (by repeat (first | exact rzs_nil | apply rzs_cons | exact rz_c | exact rz_nil rfl | apply rz_agg | exact rz_own rfl | apply rz_fn | exact rz_ptr rfl | apply rz_tup)) ?_; rintro _ rfl); exact det_refl)
    apply w_q; (focus exact rfl); (focus exact rfl); focus (intro _; (refine zCatb ([kb k] ++ uv fm ++ uv tt) (uv n) (by simp only [List.length_append, List.length_cons, List.length_nil, sz_len]; omega) ?_); exact det_refl)
    refine gW ?_
    apply w_q; (focus exact rfl); (focus exact rfl); focus (intro _; (refine lo_conv tok rfl rfl rfl rfl w4 ?_); exact det_refl)
    apply w_q; (focus exact rfl); (focus exact rfl); focus (intro _; (refine lo_call h4 rfl (by repeat (first | exact rzs_nil | apply rzs_cons | exact rz_c | exact rz_nil rfl | apply rz_agg | exact rz_own rfl | apply rz_fn | exact rz_ptr rfl | apply rz_tup)) ?_; rintro _ rfl); exact det_refl)
    apply w_q; (focus exact rfl); (focus exact rfl); focus (intro _; (refine zCatb ([kb k] ++ uv fm ++ uv tt ++ uv n) (uv t.size) (by simp only [List.length_append, List.length_cons, List.length_nil, sz_len]; omega) ?_); exact det_refl)
    refine gW ?_
    apply w_q; (focus exact rfl); (focus exact rfl); focus (intro _; (refine zCatb ([kb k] ++ uv fm ++ uv tt ++ uv n ++ uv t.size) (t.data.toList) (by simp only [List.length_append, List.length_cons, List.length_nil, sz_len]; omega) ?_); exact det_refl)
    refine gW ?_
    refine w_nil ?_
    repeat (first | refine gG ?_ | refine zN1 (fun hlen => ?_) | refine zN2 (fun hlen => ?_) | refine zBx (fun _ => ?_))
    refine zCall (h5) ?_
    rintro _ rfl
    repeat (first | refine gG ?_ | refine zN1 (fun hlen => ?_) | refine zN2 (fun hlen => ?_) | refine zBx (fun _ => ?_))
    refine zCatb ([kb k] ++ uv fm ++ uv tt ++ uv n ++ uv t.size ++ t.data.toList) vb (by simp only [List.length_append, List.length_cons, List.length_nil, sz_len]; omega) ?_
    repeat (first | refine gG ?_ | refine zN1 (fun hlen => ?_) | refine zN2 (fun hlen => ?_) | refine zBx (fun _ => ?_))
    first | refine zR ?_ | refine zQ ?_
    simp only [List.append_assoc, List.cons_append, List.nil_append]; rfl
  · rw [if_neg hk] at hb ⊢
    have d1 : decide (k = 1) = false := decide_eq_false hk
    obtain ⟨kv, nv, tv, lv⟩ := v
    refine af_enter tok Try.func88 Try.ntmps88 Try.results88 rfl (by kernel_rfl) rfl rfl fun F hX => ?_
    repeat (first | refine gG ?_ | refine zN1 (fun hlen => ?_) | refine zN2 (fun hlen => ?_) | refine zBf ?_)
    refine ac_draw [1, 1, 1, 1, 1, 1, 1, 1, 1, 1, 1, 1, 1, 1, 1, 1, 1, 1, 1, 1, 1, 1, 1, 1, 1, 1, 1, 1, 1, 1] [0, 1, 2, 3, 4, 5, 6, 7, 8, 9, 10, 11, 12, 13, 14, 15, 16, 17, 18, 19, 20, 21, 22, 23, 24, 25, 26, 27, 28, 29] (by kernel_rfl) (by kernel_rfl) ?_
    refine gW ?_
    apply w_q; (focus exact rfl); (focus exact rfl); focus (intro _; (refine lo_conv tok rfl rfl rfl rfl rfl ?_); exact det_refl)
    refine gW ?_
    apply w_q; (focus exact rfl); (focus exact rfl); focus (intro _; (refine zStr [kb k] (one_kb k) rfl ?_); exact det_refl)
    refine gW ?_
    apply w_q; (focus exact rfl); (focus exact rfl); focus (intro _; (refine lo_conv tok rfl rfl rfl rfl w1 ?_); exact det_refl)
    apply w_q; (focus exact rfl); (focus exact rfl); focus (intro _; (refine lo_call h1 rfl (by repeat (first | exact rzs_nil | apply rzs_cons | exact rz_c | exact rz_nil rfl | apply rz_agg | exact rz_own rfl | apply rz_fn | exact rz_ptr rfl | apply rz_tup)) ?_; rintro _ rfl); exact det_refl)
    apply w_q; (focus exact rfl); (focus exact rfl); focus (intro _; (refine zCatb ([kb k]) (uv fm) (by simp only [List.length_append, List.length_cons, List.length_nil, sz_len]; omega) ?_); exact det_refl)
    refine gW ?_
    apply w_q; (focus exact rfl); (focus exact rfl); focus (intro _; (refine lo_conv tok rfl rfl rfl rfl w2 ?_); exact det_refl)
    apply w_q; (focus exact rfl); (focus exact rfl); focus (intro _; (refine lo_call h2 rfl (by repeat (first | exact rzs_nil | apply rzs_cons | exact rz_c | exact rz_nil rfl | apply rz_agg | exact rz_own rfl | apply rz_fn | exact rz_ptr rfl | apply rz_tup)) ?_; rintro _ rfl); exact det_refl)
    apply w_q; (focus exact rfl); (focus exact rfl); focus (intro _; (refine zCatb ([kb k] ++ uv fm) (uv tt) (by simp only [List.length_append, List.length_cons, List.length_nil, sz_len]; omega) ?_); exact det_refl)
    refine gW ?_
    apply w_q; (focus exact rfl); (focus exact rfl); focus (intro _; (refine lo_conv tok rfl rfl rfl rfl w3 ?_); exact det_refl)
    apply w_q; (focus exact rfl); (focus exact rfl); focus (intro _; (refine lo_call h3 rfl (by repeat (first | exact rzs_nil | apply rzs_cons | exact rz_c | exact rz_nil rfl | apply rz_agg | exact rz_own rfl | apply rz_fn | exact rz_ptr rfl | apply rz_tup)) ?_; rintro _ rfl); exact det_refl)
    apply w_q; (focus exact rfl); (focus exact rfl); focus (intro _; (refine zCatb ([kb k] ++ uv fm ++ uv tt) (uv n) (by simp only [List.length_append, List.length_cons, List.length_nil, sz_len]; omega) ?_); exact det_refl)
    refine gW ?_
    apply w_q; (focus exact rfl); (focus exact rfl); focus (intro _; (refine lo_conv tok rfl rfl rfl rfl w4 ?_); exact det_refl)
    apply w_q; (focus exact rfl); (focus exact rfl); focus (intro _; (refine lo_call h4 rfl (by repeat (first | exact rzs_nil | apply rzs_cons | exact rz_c | exact rz_nil rfl | apply rz_agg | exact rz_own rfl | apply rz_fn | exact rz_ptr rfl | apply rz_tup)) ?_; rintro _ rfl); exact det_refl)
    apply w_q; (focus exact rfl); (focus exact rfl); focus (intro _; (refine zCatb ([kb k] ++ uv fm ++ uv tt ++ uv n) (uv t.size) (by simp only [List.length_append, List.length_cons, List.length_nil, sz_len]; omega) ?_); exact det_refl)
    refine gW ?_
    apply w_q; (focus exact rfl); (focus exact rfl); focus (intro _; (refine zCatb ([kb k] ++ uv fm ++ uv tt ++ uv n ++ uv t.size) (t.data.toList) (by simp only [List.length_append, List.length_cons, List.length_nil, sz_len]; omega) ?_); exact det_refl)
    refine gW ?_
    refine w_nil ?_
    repeat (first | refine gG ?_ | refine zN1 (fun hlen => ?_) | refine zN2 (fun hlen => ?_) | refine zBx (fun _ => ?_))
    first | refine zR ?_ | refine zQ ?_
    simp only [List.append_assoc, List.cons_append, List.nil_append, List.append_nil]; rfl
end Go.Proofs.Ythgackidonocpaa
namespace Go.Proofs.Ythgackidonocpaa
open Go.RowKit
end Go.Proofs.Ythgackidonocpaa
namespace Go.Proofs.Ythgackidonocpaa
open Go.RowKit
theorem Par.check_3 {p : Par} (h : (decide (p.ref < 1) || decide (p.ticks < -1)) = true) : p.check = 3 := by unfold Par.check; rw [if_pos h]
theorem Par.check_2 {p : Par} (h : (decide (p.ref < 1) || decide (p.ticks < -1)) = false) (h2 : (decide ((60 : Int) < (p.box.length : Int)) || decide ((1000 : Int) < (p.wat.length : Int)) || decide ((1000 : Int) < (p.lnk.length : Int))) = true) : p.check = 2 := by unfold Par.check; rw [if_neg (by rw [h]; decide), if_pos h2]
theorem Par.check_s {p : Par} (h : (decide (p.ref < 1) || decide (p.ticks < -1)) = false) (h2 : (decide ((60 : Int) < (p.box.length : Int)) || decide ((1000 : Int) < (p.wat.length : Int)) || decide ((1000 : Int) < (p.lnk.length : Int))) = false) (h3 : ¬ p.sav.check = 0) : p.check = p.sav.check := by unfold Par.check; rw [if_neg (by rw [h]; decide), if_neg (by rw [h2]; decide), if_pos h3]
theorem Par.check_b {p : Par} (h : (decide (p.ref < 1) || decide (p.ticks < -1)) = false) (h2 : (decide ((60 : Int) < (p.box.length : Int)) || decide ((1000 : Int) < (p.wat.length : Int)) || decide ((1000 : Int) < (p.lnk.length : Int))) = false) (h3 : p.sav.check = 0) (h4 : ¬ errs (p.box.map Lt.check) = 0) : p.check = errs (p.box.map Lt.check) := by unfold Par.check; rw [if_neg (by rw [h]; decide), if_neg (by rw [h2]; decide), if_neg (fun g => g h3), if_pos h4]
theorem Par.check_l {p : Par} (h : (decide (p.ref < 1) || decide (p.ticks < -1)) = false) (h2 : (decide ((60 : Int) < (p.box.length : Int)) || decide ((1000 : Int) < (p.wat.length : Int)) || decide ((1000 : Int) < (p.lnk.length : Int))) = false) (h3 : p.sav.check = 0) (h4 : errs (p.box.map Lt.check) = 0) : p.check = if (p.wat.any low1 || p.lnk.any low1) = true then 3 else 0 := by unfold Par.check; rw [if_neg (by rw [h]; decide), if_neg (by rw [h2]; decide), if_neg (fun g => g h3), if_neg (fun g => g h4)]
theorem map_at {α : Type} (f : α → T) {l : List α} {k : Nat} {a : α} (h : l[k]? = some a) : (l.map f)[k * 1]? = some (f a) := by rw [Nat.mul_one, List.getElem?_map, h]; rfl
theorem int_at {l : List Int} {k : Nat} {a : Int} (h : l[k]? = some a) : (l.flatMap intTs)[k * 1]? = some (.lit (.int .i64 a)) := by
  have := flat_get intTs 1 (fun _ => rfl) (j := 0) h (by omega)
  simpa [intTs] using this
theorem any_mem {l : List Int} {n : Int} (h : n ∈ l) (hn : low1 n = true) : l.any low1 = true := List.any_eq_true.2 ⟨n, h, hn⟩
theorem any_none {l : List Int} (h : ∀ n ∈ l, low1 n = false) : l.any low1 = false := by
  rw [List.any_eq_false]
  intro n hn
  rw [h n hn]; decide
set_option maxRecDepth 100000 in
set_option maxHeartbeats 4000000 in
theorem checkParcel_af (p : Par) : AF Try.prog 44 [p.t] (· = .lit (.int .i64 p.check)) := by
  have k3 := @Par.check_3 p
  have k2 := @Par.check_2 p
  have ks := @Par.check_s p
  have kb := @Par.check_b p
  have kl := @Par.check_l p
  have hs := checkSaved_af p.sav
  obtain ⟨rf, sv, bx, tk, wt, lk⟩ := p
  dsimp only at k3 k2 ks kb kl hs
  generalize (Par.mk rf sv bx tk wt lk).check = ck at *
  generalize sv.check = cs at *
  obtain ⟨ac, st, ip⟩ := sv
  refine af_enter tok Try.func44 Try.ntmps44 Try.results44 rfl (by kernel_rfl) rfl rfl fun F hX => ?_
  cases d1 : decide (rf < 1)
  rotate_left
  · repeat (first | refine gG ?_ | refine zN1 (fun hlen => ?_) | refine zN2 (fun hlen => ?_) | refine zAl (fun _ => ?_) | refine zBf ?_)
    first | refine zR ?_ | refine zQ ?_
    rw [k3 (by rw [d1]; rfl)]; rfl
  cases d2 : decide (tk < -1)
  rotate_left
  · repeat (first | refine gG ?_ | refine zN1 (fun hlen => ?_) | refine zN2 (fun hlen => ?_) | refine zAl (fun _ => ?_) | refine zBf ?_)
    first | refine zR ?_ | refine zQ ?_
    rw [k3 (by rw [d1, d2]; rfl)]; rfl
  have j1 : (decide (rf < 1) || decide (tk < -1)) = false := by rw [d1, d2]; rfl
  cases d3 : decide ((60 : Int) < (bx.length : Int))
  rotate_left
  · repeat (first | refine gG ?_ | refine zN1 (fun hlen => ?_) | refine zN2 (fun hlen => ?_) | refine zAl (fun _ => ?_) | refine zBf ?_)
    first | refine zR ?_ | refine zQ ?_
    rw [k2 j1 (by rw [d3]; rfl)]; rfl
  cases d4 : decide ((1000 : Int) < (wt.length : Int))
  rotate_left
  · repeat (first | refine gG ?_ | refine zN1 (fun hlen => ?_) | refine zN2 (fun hlen => ?_) | refine zAl (fun _ => ?_) | refine zBf ?_)
    first | refine zR ?_ | refine zQ ?_
    rw [k2 j1 (by rw [d3, d4]; rfl)]; rfl
  cases d5 : decide ((1000 : Int) < (lk.length : Int))
  rotate_left
  · repeat (first | refine gG ?_ | refine zN1 (fun hlen => ?_) | refine zN2 (fun hlen => ?_) | refine zAl (fun _ => ?_) | refine zBf ?_)
    first | refine zR ?_ | refine zQ ?_
    rw [k2 j1 (by rw [d3, d4, d5]; rfl)]; rfl
  have j2 : (decide ((60 : Int) < (bx.length : Int)) || decide ((1000 : Int) < (wt.length : Int)) || decide ((1000 : Int) < (lk.length : Int))) = false := by rw [d3, d4, d5]; rfl
  have ks := ks j1 j2
  have kb := kb j1 j2
  have kl := kl j1 j2
  clear k3 k2 j1 j2
  repeat (first | refine gG ?_ | refine zN1 (fun hlen => ?_) | refine zN2 (fun hlen => ?_) | refine zAl (fun _ => ?_) | refine zBf ?_)
  refine zCall (hs) ?_
  rintro _ rfl
  cases c1 : decide (cs = 0)
  · repeat (first | refine gG ?_ | refine zN1 (fun hlen => ?_) | refine zN2 (fun hlen => ?_) | refine zAl (fun _ => ?_) | refine zBx (fun _ => ?_))
    first | refine zR ?_ | refine zQ ?_
    rw [ks (of_decide_eq_false c1)]; rfl
  have hs0 := of_decide_eq_true c1
  repeat (first | refine gG ?_ | refine zN1 (fun hlen => ?_) | refine zN2 (fun hlen => ?_) | refine zAl (fun _ => ?_) | refine zBx (fun _ => ?_))
  refine x_loop [2, 5, 6, 46, 47, 48, 49, 50, 51, 52, 53, 54, 55] (fun k : Nat => [(46, .c (.lit (.int .i64 k)))]) (fun _ => []) (fun k => k ≤ bx.length ∧ ∀ x ∈ bx.take k, Lt.check x = 0) (fun k => bx.length - k) 0 ⟨Nat.zero_le _, by simp⟩ ⟨rfl, trivial⟩ rfl ?_
  rintro k ⟨hk, hz⟩
  repeat (first | refine gG ?_ | refine zN1 (fun hlen => ?_) | refine zN2 (fun hlen => ?_) | refine zAl (fun _ => ?_) | refine zBx (fun _ => ?_))
  refine x_cond rfl (fun h => ?_) (fun h => ?_)
  · have hk' : k < bx.length := by simpa using h
    obtain ⟨a, ha⟩ := nth hk'
    have hs := checkLetter_af a
    have he := errs_at Lt.check hz ha
    have hsn := take_snoc (p := fun x => Lt.check x = 0) ha hz
    repeat (first | refine gG ?_ | refine zN1 (fun hlen => ?_) | refine zN2 (fun hlen => ?_) | refine zAl (fun _ => ?_) | refine zBx (fun _ => ?_))
    refine zIx (k) (hk') ?_
    repeat (first | refine gG ?_ | refine zN1 (fun hlen => ?_) | refine zN2 (fun hlen => ?_) | refine zAl (fun _ => ?_) | refine zBx (fun _ => ?_))
    refine zEl (flat_at Lt.ts 9 Lt.ts_len ha) (Lt.ts_len a) ?_
    generalize hca : a.check = ca at *
    obtain ⟨ka, fa, ta, na, sa, ⟨kv, nv, tv, lv⟩⟩ := a
    repeat (first | refine gG ?_ | refine zN1 (fun hlen => ?_) | refine zN2 (fun hlen => ?_) | refine zAl (fun _ => ?_) | refine zBx (fun _ => ?_))
    refine zCall (hs) ?_
    rintro _ rfl
    cases c2 : decide (ca = 0)
    · have c0 : ¬ ca = 0 := of_decide_eq_false c2
      repeat (first | refine gG ?_ | refine zN1 (fun hlen => ?_) | refine zN2 (fun hlen => ?_) | refine zAl (fun _ => ?_) | refine zBx (fun _ => ?_))
      first | refine zR ?_ | refine zQ ?_
      rw [kb hs0 (by rw [he c0]; exact c0), he c0]; rfl
    · have c0 : ca = 0 := of_decide_eq_true c2
      repeat (first | refine gG ?_ | refine zN1 (fun hlen => ?_) | refine zN2 (fun hlen => ?_) | refine zAl (fun _ => ?_) | refine zBx (fun _ => ?_))
      exact ⟨k + 1, ⟨hk', hsn c0⟩, by omega, x_wkd 0 ⟨rfl, trivial⟩ rfl (by repeat (first | exact ag_refl | refine ag_upd rfl ?_ | refine ag_at rfl rfl ?_))⟩
  · have hk' : k = bx.length := by have : ¬ k < bx.length := by simpa using h
                                   omega
    subst hk'
    rw [List.take_length] at hz
    have kl := kl hs0 (errs_all Lt.check hz)
    repeat (first | refine gG ?_ | refine zN1 (fun hlen => ?_) | refine zN2 (fun hlen => ?_) | refine zAl (fun _ => ?_) | refine zBx (fun _ => ?_))
    refine x_loop [2, 8, 10, 62, 63, 64, 65, 66, 67, 68, 69, 70, 71, 72, 73, 74, 75] (fun k : Nat => [(62, .c (.lit (.int .i64 k)))]) (fun _ => []) (fun k => k ≤ 2 ∧ ∀ l ∈ [wt, lk].take k, l.any low1 = false) (fun k => 2 - k) 0 ⟨Nat.zero_le _, by simp⟩ ⟨rfl, trivial⟩ rfl ?_
    rintro k ⟨hk, hz2⟩
    repeat (first | refine gG ?_ | refine zN1 (fun hlen => ?_) | refine zN2 (fun hlen => ?_) | refine zAl (fun _ => ?_) | refine zBx (fun _ => ?_))
    refine x_cond rfl (fun h => ?_) (fun h => ?_)
    · have hk' : k < 2 := by have := of_decide_eq_true h; omega
      obtain ⟨a, ha⟩ := nth (l := [wt, lk]) hk'
      have hsn2 := take_snoc (p := fun l : List Int => l.any low1 = false) ha hz2
      have ham : a = wt ∨ a = lk := by have := List.mem_of_getElem? ha; simpa using this
      repeat (first | refine gG ?_ | refine zN1 (fun hlen => ?_) | refine zN2 (fun hlen => ?_) | refine zAl (fun _ => ?_) | refine zBx (fun _ => ?_))
      refine zIx k hk' ?_
      repeat (first | refine gG ?_ | refine zN1 (fun hlen => ?_) | refine zN2 (fun hlen => ?_) | refine zAl (fun _ => ?_) | refine zBx (fun _ => ?_))
      refine zEl1 (map_at intRow ha) ?_
      repeat (first | refine gG ?_ | refine zN1 (fun hlen => ?_) | refine zN2 (fun hlen => ?_) | refine zAl (fun _ => ?_) | refine zBx (fun _ => ?_))
      refine x_loop [2, 10, 68, 69, 70, 71, 72, 73, 74] (fun j : Nat => [(68, .c (.lit (.int .i64 j)))]) (fun _ => []) (fun j => j ≤ a.length ∧ ∀ n ∈ a.take j, low1 n = false) (fun j => a.length - j) 0 ⟨Nat.zero_le _, by simp⟩ ⟨rfl, trivial⟩ rfl ?_
      rintro j ⟨hj, hz3⟩
      repeat (first | refine gG ?_ | refine zN1 (fun hlen => ?_) | refine zN2 (fun hlen => ?_) | refine zAl (fun _ => ?_) | refine zBx (fun _ => ?_))
      refine x_cond rfl (fun h => ?_) (fun h => ?_)
      · have hj' : j < a.length := by simpa using h
        obtain ⟨n, hn⟩ := nth hj'
        have hsn3 := take_snoc (p := fun n => low1 n = false) hn hz3
        repeat (first | refine gG ?_ | refine zN1 (fun hlen => ?_) | refine zN2 (fun hlen => ?_) | refine zAl (fun _ => ?_) | refine zBx (fun _ => ?_))
        refine zIx j hj' ?_
        repeat (first | refine gG ?_ | refine zN1 (fun hlen => ?_) | refine zN2 (fun hlen => ?_) | refine zAl (fun _ => ?_) | refine zBx (fun _ => ?_))
        refine zEl1 (int_at hn) ?_
        cases c3 : decide (n < 1)
        · repeat (first | refine gG ?_ | refine zN1 (fun hlen => ?_) | refine zN2 (fun hlen => ?_) | refine zAl (fun _ => ?_) | refine zBx (fun _ => ?_))
          exact ⟨j + 1, ⟨hj', hsn3 c3⟩, by omega, x_wkd 0 ⟨rfl, trivial⟩ rfl (by repeat (first | exact ag_refl | refine ag_upd rfl ?_ | refine ag_at rfl rfl ?_))⟩
        · repeat (first | refine gG ?_ | refine zN1 (fun hlen => ?_) | refine zN2 (fun hlen => ?_) | refine zAl (fun _ => ?_) | refine zBx (fun _ => ?_))
          first | refine zR ?_ | refine zQ ?_
          have := any_mem (List.mem_of_getElem? hn) c3
          rw [kl, if_pos]
          · rfl
          · rcases ham with rfl | rfl
            · rw [this]; rfl
            · rw [this, Bool.or_true]
      · have hj' : j = a.length := by have : ¬ j < a.length := by simpa using h
                                      omega
        subst hj'
        rw [List.take_length] at hz3
        repeat (first | refine gG ?_ | refine zN1 (fun hlen => ?_) | refine zN2 (fun hlen => ?_) | refine zAl (fun _ => ?_) | refine zBx (fun _ => ?_))
        exact ⟨k + 1, ⟨hk', hsn2 (any_none hz3)⟩, by omega, x_wkd 0 ⟨rfl, trivial⟩ rfl (by repeat (first | exact ag_refl | refine ag_upd rfl ?_ | refine ag_at rfl rfl ?_))⟩
    · have hk' : k = 2 := by have := of_decide_eq_false h; omega
      subst hk'
      repeat (first | refine gG ?_ | refine zN1 (fun hlen => ?_) | refine zN2 (fun hlen => ?_) | refine zAl (fun _ => ?_) | refine zBx (fun _ => ?_))
      first | refine zR ?_ | refine zQ ?_
      rw [kl, if_neg]
      · rfl
      · rw [hz2 wt (by simp), hz2 lk (by simp)]; decide
set_option maxRecDepth 100000 in
set_option maxHeartbeats 2000000 in
theorem listL_ag (f : FuncId) (enc : Lt → List UInt8) (l : List Lt) (hf : ∀ x ∈ l, ∀ (v : Value) (b : List UInt8), b.length + (enc x).length ≤ 1099511627776 → AG Try.prog f [.own 0 v, .c (.agg (Lt.ts x))] [.row v 5 1 b.length (byts b)] (Grew 5 (b ++ enc x)))
    (v : Value) (b : List UInt8) (hn : l.length < 9223372036854775808) (hb : b.length + (uv l.length ++ l.flatMap enc).length ≤ 1099511627776) :
    AG Try.prog 176 [.own 0 v, .c (letRow l), .fn (.func f) []] [.row v 5 1 b.length (byts b)] (Grew 5 (b ++ (uv l.length ++ l.flatMap enc))) := by
  have hc := nat_ag v b l.length hn (by omega)
  refine ag_enter 1 tok Try.func176 Try.ntmps176 Try.results176 rfl (by kernel_rfl) rfl fun F => ?_
  repeat (first | refine gG ?_ | refine zN1 (fun hlen => ?_) | refine zN2 (fun hlen => ?_) | refine zAl (fun _ => ?_))
  refine zCallG [0] hc ?_
  rintro _ _ ⟨v', rfl, rfl⟩
  refine ⟨.own 0 v', _, re_own, rfl, rfl, ?_⟩
  repeat (first | refine gG ?_ | refine zN1 (fun hlen => ?_) | refine zN2 (fun hlen => ?_) | refine zAl (fun _ => ?_))
  refine x_loop [0, 8, 15, 16, 17, 18, 19, 20, 21, 22, 23] (fun y : Nat × Value => [(15, .c (.lit (.int .i64 (y.1 : Nat)))), (0, .own 0 y.2)]) (fun y => [.row y.2 5 1 (b ++ (uv l.length ++ (l.take y.1).flatMap enc)).length (byts (b ++ (uv l.length ++ (l.take y.1).flatMap enc)))])
    (fun y => y.1 ≤ l.length) (fun y => l.length - y.1) (0, v') (Nat.zero_le _) ⟨rfl, rfl, trivial⟩ (by simp) ?_
  rintro ⟨k, u⟩ hk
  dsimp only at hk ⊢
  repeat (first | refine gG ?_ | refine zN1 (fun hlen => ?_) | refine zN2 (fun hlen => ?_) | refine zAl (fun _ => ?_))
  refine x_cond rfl (fun h => ?_) (fun h => ?_)
  · have hk' : k < l.length := by simpa using h
    obtain ⟨a, ha⟩ := nth hk'
    have hsn := flat_snoc' enc ha
    have hle : ((l.take (k + 1)).flatMap enc).length ≤ (l.flatMap enc).length := by
      have := congrArg (fun r => (List.flatMap enc r).length) (List.take_append_drop (k + 1) l)
      simp only [List.flatMap_append, List.length_append] at this
      omega
    have hca := hf a (List.mem_of_getElem? ha) u (b ++ (uv l.length ++ (l.take k).flatMap enc)) (by
      rw [hsn] at hle
      simp only [List.length_append] at hle hb ⊢
      omega)
    repeat (first | refine gG ?_ | refine zN1 (fun hlen => ?_) | refine zN2 (fun hlen => ?_) | refine zAl (fun _ => ?_))
    refine zIx (k) (hk') ?_
    repeat (first | refine gG ?_ | refine zN1 (fun hlen => ?_) | refine zN2 (fun hlen => ?_) | refine zAl (fun _ => ?_))
    refine zEl (flat_at Lt.ts 9 Lt.ts_len ha) (Lt.ts_len a) ?_
    obtain ⟨ka, fa, ta, na, sa, ⟨kv, nv, tv, lv⟩⟩ := a
    repeat (first | refine gG ?_ | refine zN1 (fun hlen => ?_) | refine zN2 (fun hlen => ?_) | refine zAl (fun _ => ?_))
    refine zCallG [0] hca ?_
    rintro _ _ ⟨u', rfl, rfl⟩
    refine ⟨.own 0 u', _, re_own, rfl, rfl, ?_⟩
    repeat (first | refine gG ?_ | refine zN1 (fun hlen => ?_) | refine zN2 (fun hlen => ?_) | refine zAl (fun _ => ?_))
    exact ⟨(k + 1, u'), hk', by simp only; omega, x_wkd 1 ⟨rfl, rfl, trivial⟩ (by simp only [hsn, List.append_assoc]; rfl) (by repeat (first | exact ag_refl | refine ag_upd rfl ?_ | refine ag_at rfl rfl ?_))⟩
  · have hk' : k = l.length := by have : ¬ k < l.length := by simpa using h
                                  omega
    subst hk'
    repeat (first | refine gG ?_ | refine zN1 (fun hlen => ?_) | refine zN2 (fun hlen => ?_) | refine zAl (fun _ => ?_))
    refine zG ?_
    refine ⟨_, rfl, ?_⟩
    rw [List.take_length]
set_option maxRecDepth 100000 in
set_option maxHeartbeats 2000000 in
theorem listN_ag (f : FuncId) (enc : Int → List UInt8) (l : List Int) (hf : ∀ x ∈ l, ∀ (v : Value) (b : List UInt8), b.length + (enc x).length ≤ 1099511627776 → AG Try.prog f [.own 0 v, .c (.lit (.int .i64 x))] [.row v 5 1 b.length (byts b)] (Grew 5 (b ++ enc x)))
    (v : Value) (b : List UInt8) (hn : l.length < 9223372036854775808) (hb : b.length + (uv l.length ++ l.flatMap enc).length ≤ 1099511627776) :
    AG Try.prog 177 [.own 0 v, .c (intRow l), .fn (.func f) []] [.row v 5 1 b.length (byts b)] (Grew 5 (b ++ (uv l.length ++ l.flatMap enc))) := by
  have hc := nat_ag v b l.length hn (by omega)
  refine ag_enter 1 tok Try.func177 Try.ntmps177 Try.results177 rfl (by kernel_rfl) rfl fun F => ?_
  repeat (first | refine gG ?_ | refine zN1 (fun hlen => ?_) | refine zN2 (fun hlen => ?_))
  refine zCallG [0] hc ?_
  rintro _ _ ⟨v', rfl, rfl⟩
  refine ⟨.own 0 v', _, re_own, rfl, rfl, ?_⟩
  repeat (first | refine gG ?_ | refine zN1 (fun hlen => ?_) | refine zN2 (fun hlen => ?_))
  refine x_loop [0, 8, 15, 16, 17, 18, 19, 20, 21, 22, 23] (fun y : Nat × Value => [(15, .c (.lit (.int .i64 (y.1 : Nat)))), (0, .own 0 y.2)]) (fun y => [.row y.2 5 1 (b ++ (uv l.length ++ (l.take y.1).flatMap enc)).length (byts (b ++ (uv l.length ++ (l.take y.1).flatMap enc)))])
    (fun y => y.1 ≤ l.length) (fun y => l.length - y.1) (0, v') (Nat.zero_le _) ⟨rfl, rfl, trivial⟩ (by simp) ?_
  rintro ⟨k, u⟩ hk
  dsimp only at hk ⊢
  repeat (first | refine gG ?_ | refine zN1 (fun hlen => ?_) | refine zN2 (fun hlen => ?_))
  refine x_cond rfl (fun h => ?_) (fun h => ?_)
  · have hk' : k < l.length := by simpa using h
    obtain ⟨a, ha⟩ := nth hk'
    have hsn := flat_snoc' enc ha
    have hle : ((l.take (k + 1)).flatMap enc).length ≤ (l.flatMap enc).length := by
      have := congrArg (fun r => (List.flatMap enc r).length) (List.take_append_drop (k + 1) l)
      simp only [List.flatMap_append, List.length_append] at this
      omega
    have hca := hf a (List.mem_of_getElem? ha) u (b ++ (uv l.length ++ (l.take k).flatMap enc)) (by
      rw [hsn] at hle
      simp only [List.length_append] at hle hb ⊢
      omega)
    repeat (first | refine gG ?_ | refine zN1 (fun hlen => ?_) | refine zN2 (fun hlen => ?_))
    refine zIx k hk' ?_
    repeat (first | refine gG ?_ | refine zN1 (fun hlen => ?_) | refine zN2 (fun hlen => ?_))
    refine zEl1 (int_at ha) ?_
    repeat (first | refine gG ?_ | refine zN1 (fun hlen => ?_) | refine zN2 (fun hlen => ?_))
    refine zCallG [0] hca ?_
    rintro _ _ ⟨u', rfl, rfl⟩
    refine ⟨.own 0 u', _, re_own, rfl, rfl, ?_⟩
    repeat (first | refine gG ?_ | refine zN1 (fun hlen => ?_) | refine zN2 (fun hlen => ?_))
    exact ⟨(k + 1, u'), hk', by simp only; omega, x_wkd 1 ⟨rfl, rfl, trivial⟩ (by simp only [hsn, List.append_assoc]; rfl) (by repeat (first | exact ag_refl | refine ag_upd rfl ?_ | refine ag_at rfl rfl ?_))⟩
  · have hk' : k = l.length := by have : ¬ k < l.length := by simpa using h
                                  omega
    subst hk'
    repeat (first | refine gG ?_ | refine zN1 (fun hlen => ?_) | refine zN2 (fun hlen => ?_))
    refine zG ?_
    refine ⟨_, rfl, ?_⟩
    rw [List.take_length]
theorem appendLetter_ag' {x : Lt} (h : x.check = 0) (hok : x.ok) (w : Value) (b : List UInt8) (hb : b.length + x.bytes.length ≤ 1099511627776) :
    AG Try.prog 87 [.own 0 w, .c (.agg (Lt.ts x))] [.row w 5 1 b.length (byts b)] (Grew 5 (b ++ x.bytes)) := by
  obtain ⟨k, fm, tt, n, t, v⟩ := x
  have hR := Lt.right h
  obtain ⟨a1, a2, a3, a4, a5⟩ := hok
  unfold inI at a1 a2 a3
  obtain ⟨fm, rfl⟩ := nat_of hR.fm0
  obtain ⟨tt, rfl⟩ := nat_of hR.tt0
  obtain ⟨n, rfl⟩ := nat_of hR.n0.1
  exact appendLetter_ag (k := k) (t := t) (fm := fm) (tt := tt) (n := n) (by omega) (by omega) (by omega) a4 w b hb
theorem natI_ag {n : Int} (h : 1 ≤ n) (hn : inI n) (v : Value) (b : List UInt8) (hb : b.length + (nb n).length ≤ 1099511627776) : AG Try.prog 169 [.own 0 v, .c (.lit (.int .i64 n))] [.row v 5 1 b.length (byts b)] (Grew 5 (b ++ nb n)) := by
  unfold inI at hn
  obtain ⟨m, rfl⟩ := nat_of (show 0 ≤ n by omega)
  have := nat_ag v b m (by omega) (by omega)
  simpa [nb] using this
theorem nb_le {n : Int} (hn : inI n) : (nb n).length ≤ 10 := by unfold inI at hn; exact uv_len64 (by omega)
theorem Par.bytes_le {p : Par} (hs : p.Small) (h : p.Right) : p.bytes.length ≤ 71000000000 := by
  have h0 := Sav.bytes_le hs.sav (Sav.right h.sav)
  have h1 := flat_le Lt.bytes 40000000 (l := p.box) fun x hx => (hs.box x hx).2.2.1
  have h2 := flat_le nb 10 (l := p.wat) fun n hn => nb_le (hs.wat n hn)
  have h3 := flat_le nb 10 (l := p.lnk) fun n hn => nb_le (hs.lnk n hn)
  obtain ⟨a1, a2, a3, a4, a5, a6, a7, a8⟩ := h
  have h6 : p.box.length * 40000000 ≤ 60 * 40000000 := Nat.mul_le_mul_right _ a4
  have h7 : p.wat.length * 10 ≤ 1000 * 10 := Nat.mul_le_mul_right _ a7
  have h8 : p.lnk.length * 10 ≤ 1000 * 10 := Nat.mul_le_mul_right _ a8
  have hr := hs.ref
  unfold inI at hr
  have u1 := uv_len64 (n := p.ref.toNat) (by omega)
  have u2 := uv_len64 (n := p.box.length) (by omega)
  have u3 := uv_len64 (n := p.wat.length) (by omega)
  have u4 := uv_len64 (n := p.lnk.length) (by omega)
  have u5 := uv_len64 (zz_lt hs.ticks)
  simp only [Par.bytes, List.length_append]
  omega
set_option maxRecDepth 100000 in
set_option maxHeartbeats 4000000 in
theorem appendParcel_ag (p : Par) (hs : p.Small) (h : p.Right) (v : Value) (b : List UInt8) (hb : b.length + p.bytes.length ≤ 1099511627776) :
    AG Try.prog 106 [.own 0 v, .c p.t] [.row v 5 1 b.length (byts b)] (Grew 5 (b ++ p.bytes)) := by
  have hsr := Sav.right h.sav
  obtain ⟨rf, sv, bx, tk, wt, lk⟩ := p
  obtain ⟨a1, a2, a3, a4, a5, a6, a7, a8⟩ := h
  obtain ⟨b1, b2, b3, b4, b5, b6⟩ := hs
  dsimp only at hsr a1 a2 a3 a4 a5 a6 a7 a8 b1 b2 b3 b4 b5 b6
  have hrf := b3
  unfold inI at hrf
  obtain ⟨rf, rfl⟩ := nat_of (show 0 ≤ rf by omega)
  have e0 : (Par.mk rf sv bx tk wt lk).bytes = uv rf ++ (sv.bytes ++ (uv bx.length ++ (bx.flatMap Lt.bytes ++ (uv (zz tk) ++ (uv wt.length ++ (wt.flatMap nb ++ (uv lk.length ++ lk.flatMap nb))))))) := rfl
  rw [e0] at hb ⊢
  simp only [List.length_append] at hb
  have c1 := nat_ag v b rf (by omega) (by omega)
  have c2 := fun v2 => appendSaved_ag sv (fun v hv => (b1.state v hv).1) (fun x hx => (b1.inp x hx).1) hsr.states hsr.inps v2 (b ++ uv rf) (by simp only [List.length_append, List.length_cons, List.length_nil, sz_len]; omega)
  have c3 := fun v3 => listL_ag 87 Lt.bytes bx (fun x hx v b hb => appendLetter_ag' (a3 x hx) (b2 x hx).1 v b hb) v3 (b ++ uv rf ++ sv.bytes) (by omega) (by simp only [List.length_append, List.length_cons, List.length_nil, sz_len]; omega)
  have c4 := fun v4 => int_ag v4 (b ++ uv rf ++ sv.bytes ++ (uv bx.length ++ bx.flatMap Lt.bytes)) tk b4 (by simp only [List.length_append, List.length_cons, List.length_nil, sz_len]; omega)
  have c5 := fun v5 => listN_ag 169 nb wt (fun x hx v b hb => natI_ag (a5 x hx) (b5 x hx) v b hb) v5 (b ++ uv rf ++ sv.bytes ++ (uv bx.length ++ bx.flatMap Lt.bytes) ++ uv (zz tk)) (by omega) (by simp only [List.length_append, List.length_cons, List.length_nil, sz_len]; omega)
  have c6 := fun v6 => listN_ag 169 nb lk (fun x hx v b hb => natI_ag (a6 x hx) (b6 x hx) v b hb) v6 (b ++ uv rf ++ sv.bytes ++ (uv bx.length ++ bx.flatMap Lt.bytes) ++ uv (zz tk) ++ (uv wt.length ++ wt.flatMap nb)) (by omega) (by simp only [List.length_append, List.length_cons, List.length_nil, sz_len]; omega)
  obtain ⟨ac, st, ip⟩ := sv
  refine ag_enter 1 tok Try.func106 Try.ntmps106 Try.results106 rfl (by kernel_rfl) rfl fun F => ?_
  repeat (first | refine gG ?_ | refine zBf ?_)
  refine ac_draw [0, 0, 0, 2, 0, 0, 2, 0, 0, 2, 0] [0, 1, 2, 4, 5, 7, 8, 3, 6, 9, 10] (by kernel_rfl) (by kernel_rfl) ?_
  refine gW ?_
  apply w_l; (focus exact rfl); (focus exact rfl); (refine zCallG [0] c1 ?_; rintro _ _ ⟨v', rfl, rfl⟩; refine ⟨.own 0 v', _, re_own, rfl, rfl, ?_⟩)
  apply w_l; (focus exact rfl); (focus exact rfl); (refine zCallG [0] (c2 _) ?_; rintro _ _ ⟨v', rfl, rfl⟩; refine ⟨.own 0 v', _, re_own, rfl, rfl, ?_⟩)
  apply w_l; (focus exact rfl); (focus exact rfl); (refine zCallG [0] (c3 _) ?_; rintro _ _ ⟨v', rfl, rfl⟩; refine ⟨.own 0 v', _, re_own, rfl, rfl, ?_⟩)
  refine gW ?_
  refine w_nil ?_
  repeat (first | refine gG ?_ | refine zBx (fun _ => ?_))
  refine ac_draw [0, 0, 0, 2, 0, 0, 2, 0, 0, 2, 0] [0, 1, 2, 4, 5, 7, 8, 3, 6, 9, 10] (by kernel_rfl) (by kernel_rfl) ?_
  refine gW ?_
  apply w_l; (focus exact rfl); (focus exact rfl); (refine zCallG [0] (c4 _) ?_; rintro _ _ ⟨v', rfl, rfl⟩; refine ⟨.own 0 v', _, re_own, rfl, rfl, ?_⟩)
  apply w_l; (focus exact rfl); (focus exact rfl); (refine zCallG [0] (c5 _) ?_; rintro _ _ ⟨v', rfl, rfl⟩; refine ⟨.own 0 v', _, re_own, rfl, rfl, ?_⟩)
  apply w_l; (focus exact rfl); (focus exact rfl); (refine zCallG [0] (c6 _) ?_; rintro _ _ ⟨v', rfl, rfl⟩; refine ⟨.own 0 v', _, re_own, rfl, rfl, ?_⟩)
  refine gW ?_
  refine w_nil ?_
  repeat (first | refine gG ?_ | refine zBx (fun _ => ?_))
  refine zG ?_
  exact ⟨_, rfl, by simp only [List.append_assoc]⟩
set_option maxRecDepth 100000 in
set_option maxHeartbeats 4000000 in
theorem parcelW_af (p : Par) (hs : p.Small) : AF Try.prog 42 [p.t] (Outs2 p.out p.check) := by
  have hw : AF Try.prog 105 [p.t, .fn (.func 44) [], .fn (.func 106) []] (Outs2 p.out p.check) := by
    have hc := checkParcel_af p
    unfold Par.out
    by_cases hyes : p.check = 0
    · rw [if_pos hyes]
      have hR := Par.right hyes
      have hbl := Par.bytes_le hs hR
      have ha := ag_nil (Nat.succ_pos 0) (appendParcel_ag p hs hR (.slice none 0 0) [] (by simp only [List.length_nil]; omega))
      rw [List.nil_append] at ha
      obtain ⟨rf, ⟨ac, st, ip⟩, bx, tk, wt, lk⟩ := p
      generalize (Par.mk rf ⟨ac, st, ip⟩ bx tk wt lk).bytes = o at *
      rw [hyes] at hc ⊢
      refine af_enter tok Try.func105 Try.ntmps105 Try.results105 rfl (by kernel_rfl) rfl rfl fun F hX => ?_
      repeat (first | refine gG ?_ | refine zBf ?_)
      refine zCallc (hc) ?_
      rintro _ rfl
      repeat (first | refine gG ?_ | refine zBx (fun _ => ?_))
      refine zCallGc [] ha ?_
      rintro _ _ ⟨v', rfl, rfl⟩
      refine ⟨.own 0 v', _, re_own, rfl, rfl, ?_⟩
      repeat (first | refine gG ?_ | refine zBx (fun _ => ?_))
      first | refine zR ?_ | refine zQ ?_
      rfl
    · rw [if_neg hyes]
      have d1 : decide (p.check = 0) = false := decide_eq_false hyes
      generalize p.check = e at *
      obtain ⟨rf, ⟨ac, st, ip⟩, bx, tk, wt, lk⟩ := p
      refine af_enter tok Try.func105 Try.ntmps105 Try.results105 rfl (by kernel_rfl) rfl rfl fun F hX => ?_
      repeat (first | refine gG ?_ | refine zBf ?_)
      refine zCallc (hc) ?_
      rintro _ rfl
      repeat (first | refine gG ?_ | refine zBx (fun _ => ?_))
      first | refine zR (ts := [bytRow [], .lit (.int .i64 e)]) ?_ | refine zQ (ts := [bytRow [], .lit (.int .i64 e)]) ?_
      rfl
  generalize p.out = o at *
  generalize p.check = e at *
  obtain ⟨rf, ⟨ac, st, ip⟩, bx, tk, wt, lk⟩ := p
  refine af_enter tok Try.func42 Try.ntmps42 Try.results42 rfl (by kernel_rfl) rfl rfl fun F hX => ?_
  repeat (first | refine gG ?_ | refine zBf ?_)
  refine zCall (hw) ?_
  rintro _ rfl
  repeat (first | refine gG ?_ | refine zBx (fun _ => ?_))
  first | refine zR ?_ | refine zQ ?_
  rfl
end Go.Proofs.Ythgackidonocpaa
namespace Go.Proofs.Ythgackidonocpaa
open Go.RowKit
section
variable {P : Program} {F : Frm} {d : Option Tmp} {ty : TypeId} {pos : String} {aft : Array Edge} {g : Option (Nat × Bool)} {ρ : Operand → AV} {hp : List Blk} {K : AV → List Blk → Prop}
theorem zMin {x y : Operand} {t t' : TypeId} {k k' : IntKind} {a b : Int} (h : K (.c (.lit (.int k (min a b)))) hp) (hx : ρ x = .c (.lit (.int k a)) := by exact rfl) (hy : ρ y = .c (.lit (.int k' b)) := by exact rfl) : LO P F ⟨d, .call { callee := .builtin .min, args := #[x, y], argTypes := #[t, t'] }, ty, pos, aft, g⟩ ρ hp K := by
  refine LO.same (fun M e w he hh => ?_) h
  have h1 := he x (by simp [Op.operands, Call.operands])
  have h2 := he y (by simp [Op.operands, Call.operands])
  rw [hx] at h1
  rw [hy] at h2
  simp only [RA, RT] at h1 h2
  refine ⟨.int k (min a b), ?_, by simp only [RA, RT]⟩
  simp [execOp, resolve, invoke, builtin, h1, h2, Go.Lib.run_min_ints]
end
end Go.Proofs.Ythgackidonocpaa
