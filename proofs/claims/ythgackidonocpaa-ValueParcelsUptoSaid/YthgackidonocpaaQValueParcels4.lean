/-
  Texts of this proof, part 4: TlwB Tqw Ab27 Tqf Tqr Tqt Tql Open Law OpenT OpenV OpenS OpenP OpenB.
-/
import Derived.Test.YthgackidonocpaaQValueParcels3
import Derived.Deep.Slices
import Derived.JoinedCond
import Derived.Lib.MinMax
import Derived.MapKept
import Derived.OpenShut
import Derived.ProofKit
import Derived.Test.YthgackidonocpaaRows
namespace Go.Proofs.Ythgackidonocpaa
open Go.RowKit
set_option maxRecDepth 100000 in
set_option maxHeartbeats 4000000 in
theorem appendLetter_ag {k : Int} {fm tt n : Nat} {t : ByteArray} {v : V} (hfm : fm < 9223372036854775808) (htt : tt < 9223372036854775808) (hn : n < 9223372036854775808) (hok : v.ok) (w : Value) (b : List UInt8) (hb : b.length + (Lt.mk k fm tt n t v).bytes.length ≤ 1099511627776) :
    AG Try.prog 87 [.own 0 w, .c (Lt.mk k fm tt n t v).t] [.row w 5 1 b.length (byts b)] (Grew 5 (b ++ (Lt.mk k fm tt n t v).bytes)) := by
  have e0 : (Lt.mk k fm tt n t v).bytes = kb k :: (uv fm ++ (uv tt ++ (uv n ++ (uv t.size ++ (t.data.toList ++ (if k = 1 then v.bytes else [])))))) := by simp only [Lt.bytes, Int.toNat_natCast]
  rw [e0] at hb ⊢
  simp only [List.length_append, List.length_cons, sz_len] at hb
  have hi1 : ∀ v1, AG Try.prog 169 [.own 0 v1, .c (.lit (.int .i64 (fm : Int)))] [.row v1 5 1 (b.length + 1) (byts b ++ [.lit (.int .u8 (IntKind.u8.wrap k))])] (Grew 5 (b ++ (kb k :: uv fm))) := by
    intro v1
    have h := nat_ag v1 (b ++ [kb k]) fm hfm (by simp only [List.length_append, List.length_cons, List.length_nil]; omega)
    rw [← kb_T]
    simpa [byts] using h
  have hi2 := fun v2 => nat_ag v2 (b ++ (kb k :: uv fm)) tt htt (by simp only [List.length_append, List.length_cons, List.length_nil, sz_len]; omega)
  have hi3 := fun v3 => nat_ag v3 (b ++ (kb k :: uv fm) ++ uv tt) n hn (by simp only [List.length_append, List.length_cons, List.length_nil, sz_len]; omega)
  have hi4 := fun v4 => text_ag v4 (b ++ (kb k :: uv fm) ++ uv tt ++ uv n) t (by simp only [List.length_append, List.length_cons, List.length_nil, sz_len]; omega)
  by_cases hk : k = 1
  · rw [if_pos hk] at hb ⊢
    have hi5 := fun v5 => appendValue_ag v hok v5 (b ++ (kb k :: uv fm) ++ uv tt ++ uv n ++ (uv t.size ++ t.data.toList)) (by simp only [List.length_append, List.length_cons, List.length_nil, sz_len]; omega)
    have d1 : decide (k = 1) = true := decide_eq_true hk
    obtain ⟨kv, nv, tv, lv⟩ := v
    refine ag_enter 1 tok Try.func87 Try.ntmps87 Try.results87 rfl (by kernel_rfl) rfl fun F => ?_
    repeat (first | refine gG ?_ | refine zBf ?_ | refine zAp (fun _ => ?_))
    refine ac_draw [1, 1, 1, 1, 1, 2, 0, 0, 2, 0, 0, 2, 1] [0, 1, 2, 3, 4, 6, 7, 9, 10, 5, 8, 11, 12] (by kernel_rfl) (by kernel_rfl) ?_
    refine gW ?_
    apply w_q; (focus exact rfl); (focus exact rfl); focus (intro _; (refine lo_conv tok rfl rfl rfl rfl rfl ?_); exact det_refl)
    refine gW ?_
    apply w_l; (focus exact rfl); (focus exact rfl); (first | (refine zkL ?_; first | refine zL1 ?_ | refine zL2 ?_ | refine zL3 ?_ | refine zLp ?_) | refine zM ?_ | (refine zkF ?_; first | refine zF1 ?_ | refine zF2 ?_ | refine zF3 ?_) | refine zA ?_ | (refine zkB ?_; first | refine zC5 ?_ | refine zC6 ?_ | refine zC1 ?_ | refine zC2 ?_ | refine zC3 ?_ | refine zC4 ?_ | refine zS5 ?_ | refine zS6 ?_ | refine zS1 ?_ | refine zS2 ?_ | refine zS3 ?_ | refine zS4 ?_ | refine zInc ?_ | refine zQ1 ?_ | refine zQ2 ?_ | refine zQ3 ?_ | refine zQ4 ?_ | refine zQ5 ?_ | refine zQ6 ?_) | (refine zkI ?_; first | refine zN1 (fun hlen => ?_) | refine zN2 (fun hlen => ?_) | refine zN3 ?_ | refine zN4 ?_ | refine zAp (fun _ => ?_)) | refine zS ?_ | refine zAl (fun _ => ?_) | refine zBx (fun _ => ?_) | refine zPt ?_ | refine zPf ?_ | refine zE ?_ | refine zEA ?_ | refine zNot ?_ | refine zBd ?_ | refine zBs ?_ | refine zFn ?_ | refine zK1 ?_ | refine zK2 ?_)
    apply w_l; (focus exact rfl); (focus exact rfl); (refine zCallG [0] (hi1 _) ?_; rintro _ _ ⟨v', rfl, rfl⟩; refine ⟨.own 0 v', _, re_own, rfl, rfl, ?_⟩)
    apply w_l; (focus exact rfl); (focus exact rfl); (refine zCallG [0] (hi2 _) ?_; rintro _ _ ⟨v', rfl, rfl⟩; refine ⟨.own 0 v', _, re_own, rfl, rfl, ?_⟩)
    refine gW ?_
    refine w_nil ?_
    repeat (first | refine gG ?_ | refine zBx (fun _ => ?_) | refine zAp (fun _ => ?_))
    refine ac_draw [1, 1, 1, 2, 0, 0, 2, 1] [0, 1, 2, 4, 5, 3, 6, 7] (by kernel_rfl) (by kernel_rfl) ?_
    refine gW ?_
    apply w_l; (focus exact rfl); (focus exact rfl); (refine zCallG [0] (hi3 _) ?_; rintro _ _ ⟨v', rfl, rfl⟩; refine ⟨.own 0 v', _, re_own, rfl, rfl, ?_⟩)
    apply w_l; (focus exact rfl); (focus exact rfl); (refine zCallG [0] (hi4 _) ?_; rintro _ _ ⟨v', rfl, rfl⟩; refine ⟨.own 0 v', _, re_own, rfl, rfl, ?_⟩)
    refine gW ?_
    refine w_nil ?_
    repeat (first | refine gG ?_ | refine zBx (fun _ => ?_) | refine zAp (fun _ => ?_))
    refine zCallG [0] (hi5 _) ?_
    rintro _ _ ⟨v', rfl, rfl⟩
    refine ⟨.own 0 v', _, re_own, rfl, rfl, ?_⟩
    repeat (first | refine gG ?_ | refine zBx (fun _ => ?_) | refine zAp (fun _ => ?_))
    refine zG ?_
    exact ⟨_, rfl, by simp only [List.append_assoc, List.cons_append]⟩
  · rw [if_neg hk] at hb ⊢
    have d1 : decide (k = 1) = false := decide_eq_false hk
    obtain ⟨kv, nv, tv, lv⟩ := v
    refine ag_enter 1 tok Try.func87 Try.ntmps87 Try.results87 rfl (by kernel_rfl) rfl fun F => ?_
    repeat (first | refine gG ?_ | refine zBf ?_ | refine zAp (fun _ => ?_))
    refine ac_draw [1, 1, 1, 1, 1, 2, 0, 0, 2, 0, 0, 2, 1] [0, 1, 2, 3, 4, 6, 7, 9, 10, 5, 8, 11, 12] (by kernel_rfl) (by kernel_rfl) ?_
    refine gW ?_
    apply w_q; (focus exact rfl); (focus exact rfl); focus (intro _; (refine lo_conv tok rfl rfl rfl rfl rfl ?_); exact det_refl)
    refine gW ?_
    apply w_l; (focus exact rfl); (focus exact rfl); (first | (refine zkL ?_; first | refine zL1 ?_ | refine zL2 ?_ | refine zL3 ?_ | refine zLp ?_) | refine zM ?_ | (refine zkF ?_; first | refine zF1 ?_ | refine zF2 ?_ | refine zF3 ?_) | refine zA ?_ | (refine zkB ?_; first | refine zC5 ?_ | refine zC6 ?_ | refine zC1 ?_ | refine zC2 ?_ | refine zC3 ?_ | refine zC4 ?_ | refine zS5 ?_ | refine zS6 ?_ | refine zS1 ?_ | refine zS2 ?_ | refine zS3 ?_ | refine zS4 ?_ | refine zInc ?_ | refine zQ1 ?_ | refine zQ2 ?_ | refine zQ3 ?_ | refine zQ4 ?_ | refine zQ5 ?_ | refine zQ6 ?_) | (refine zkI ?_; first | refine zN1 (fun hlen => ?_) | refine zN2 (fun hlen => ?_) | refine zN3 ?_ | refine zN4 ?_ | refine zAp (fun _ => ?_)) | refine zS ?_ | refine zAl (fun _ => ?_) | refine zBx (fun _ => ?_) | refine zPt ?_ | refine zPf ?_ | refine zE ?_ | refine zEA ?_ | refine zNot ?_ | refine zBd ?_ | refine zBs ?_ | refine zFn ?_ | refine zK1 ?_ | refine zK2 ?_)
    apply w_l; (focus exact rfl); (focus exact rfl); (refine zCallG [0] (hi1 _) ?_; rintro _ _ ⟨v', rfl, rfl⟩; refine ⟨.own 0 v', _, re_own, rfl, rfl, ?_⟩)
    apply w_l; (focus exact rfl); (focus exact rfl); (refine zCallG [0] (hi2 _) ?_; rintro _ _ ⟨v', rfl, rfl⟩; refine ⟨.own 0 v', _, re_own, rfl, rfl, ?_⟩)
    refine gW ?_
    refine w_nil ?_
    repeat (first | refine gG ?_ | refine zBx (fun _ => ?_) | refine zAp (fun _ => ?_))
    refine ac_draw [1, 1, 1, 2, 0, 0, 2, 1] [0, 1, 2, 4, 5, 3, 6, 7] (by kernel_rfl) (by kernel_rfl) ?_
    refine gW ?_
    apply w_l; (focus exact rfl); (focus exact rfl); (refine zCallG [0] (hi3 _) ?_; rintro _ _ ⟨v', rfl, rfl⟩; refine ⟨.own 0 v', _, re_own, rfl, rfl, ?_⟩)
    apply w_l; (focus exact rfl); (focus exact rfl); (refine zCallG [0] (hi4 _) ?_; rintro _ _ ⟨v', rfl, rfl⟩; refine ⟨.own 0 v', _, re_own, rfl, rfl, ?_⟩)
    refine gW ?_
    refine w_nil ?_
    repeat (first | refine gG ?_ | refine zBx (fun _ => ?_) | refine zAp (fun _ => ?_))
    refine zG ?_
    exact ⟨_, rfl, by simp only [List.append_assoc, List.cons_append, List.append_nil]⟩
theorem Lt.bytes_le {x : Lt} (h : x.Small) : x.bytes.length ≤ 2000000100 := by
  obtain ⟨k, fm, tt, n, t, v⟩ := x
  obtain ⟨h1, h2, h3, h4⟩ := h
  simp only [Lt.val] at h1 h2 h3
  obtain ⟨a1, a2, a3, a4⟩ := h4
  unfold inI at a1 a2 a3
  have u1 := uv_len64 (n := fm.toNat) (by omega)
  have u2 := uv_len64 (n := tt.toNat) (by omega)
  have u3 := uv_len64 (n := n.toNat) (by omega)
  have u4 := uv_len64 (n := t.size) (by omega)
  simp only [Lt.bytes, List.length_cons, List.length_append, sz_len]
  split
  · omega
  · simp only [List.length_nil]; omega
theorem nat_of {n : Int} (h : 0 ≤ n) : ∃ m : Nat, n = m := ⟨n.toNat, by omega⟩
set_option maxRecDepth 100000 in
set_option maxHeartbeats 4000000 in
theorem letterText_af {k : Int} {fm tt n : Nat} {t : ByteArray} {v : V} (hfm : fm < 9223372036854775808) (htt : tt < 9223372036854775808) (hn : n < 9223372036854775808) (hok : v.ok) (hb : (Lt.mk k fm tt n t v).bytes.length ≤ 1099511627776) : AF Try.prog 88 [(Lt.mk k fm tt n t v).t] (· = .lit (.string (bs (Lt.mk k fm tt n t v).bytes))) := by
  have e0 : (Lt.mk k fm tt n t v).bytes = kb k :: (uv fm ++ (uv tt ++ (uv n ++ (uv t.size ++ (t.data.toList ++ (if k = 1 then v.bytes else [])))))) := by simp only [Lt.bytes, Int.toNat_natCast]
  rw [e0] at hb ⊢
  simp only [List.length_append, List.length_cons, sz_len] at hb
  have h1 := rnat_af fm (by omega)
  have h2 := rnat_af tt (by omega)
  have h3 := rnat_af n (by omega)
  have h4 := rnat_af t.size (by omega)
  have w1 : IntKind.u64.wrap (fm : Int) = (fm : Int) := by rw [wrap_u64]; omega
  have w2 : IntKind.u64.wrap (tt : Int) = (tt : Int) := by rw [wrap_u64]; omega
  have w3 : IntKind.u64.wrap (n : Int) = (n : Int) := by rw [wrap_u64]; omega
  have w4 : IntKind.u64.wrap (t.size : Int) = (t.size : Int) := by rw [wrap_u64]; omega
  by_cases hk : k = 1
  · rw [if_pos hk] at hb ⊢
    have h5 := valueText_af v hok (by omega)
    have d1 : decide (k = 1) = true := decide_eq_true hk
    generalize hvb : v.bytes = vb at *
    obtain ⟨kv, nv, tv, lv⟩ := v
    refine af_enter tok Try.func88 Try.ntmps88 Try.results88 rfl (by kernel_rfl) rfl rfl fun F hX => ?_
    repeat (first | refine gG ?_ | refine zN1 (fun hlen => ?_) | refine zN2 (fun hlen => ?_) | refine zBf ?_)
    refine ac_draw [1, 1, 1, 1, 1, 1, 1, 1, 1, 1, 1, 1, 1, 1, 1, 1, 1, 1, 1, 1, 1, 1, 1, 1, 1, 1, 1, 1, 1, 1] [0, 1, 2, 3, 4, 5, 6, 7, 8, 9, 10, 11, 12, 13, 14, 15, 16, 17, 18, 19, 20, 21, 22, 23, 24, 25, 26, 27, 28, 29] (by kernel_rfl) (by kernel_rfl) ?_
    refine gW ?_
    apply w_q; (focus exact rfl); (focus exact rfl); focus (intro _; (refine lo_conv tok rfl rfl rfl rfl rfl ?_); exact det_refl)
    refine gW ?_
    apply w_q; (focus exact rfl); (focus exact rfl); focus (intro _; (refine zStr [kb k] (one_kb k) rfl ?_); exact det_refl)
    refine gW ?_
    apply w_q; (focus exact rfl); (focus exact rfl); focus (intro _; (refine lo_conv tok rfl rfl rfl rfl w1 ?_); exact det_refl)
    apply w_q; (focus exact rfl); (focus exact rfl); focus (intro _; (refine lo_call h1 rfl (by repeat (first | exact rzs_nil | apply rzs_cons | exact rz_c | exact rz_nil rfl | apply rz_agg | exact rz_own rfl | apply rz_fn | exact rz_ptr rfl | apply rz_tup)) ?_; rintro _ rfl); exact det_refl)
    apply w_q; (focus exact rfl); (focus exact rfl); focus (intro _; (refine zCatb ([kb k]) (uv fm) (by simp only [List.length_append, List.length_cons, List.length_nil, sz_len]; omega) ?_); exact det_refl)
    refine gW ?_
    apply w_q; (focus exact rfl); (focus exact rfl); focus (intro _; (refine lo_conv tok rfl rfl rfl rfl w2 ?_); exact det_refl)
    apply w_q; (focus exact rfl); (focus exact rfl); focus (intro _; (refine lo_call h2 rfl (by repeat (first | exact rzs_nil | apply rzs_cons | exact rz_c | exact rz_nil rfl | apply rz_agg | exact rz_own rfl | apply rz_fn | exact rz_ptr rfl | apply rz_tup)) ?_; rintro _ rfl); exact det_refl)
    apply w_q; (focus exact rfl); (focus exact rfl); focus (intro _; (refine zCatb ([kb k] ++ uv fm) (uv tt) (by simp only [List.length_append, List.length_cons, List.length_nil, sz_len]; omega) ?_); exact det_refl)
    refine gW ?_
    apply w_q; (focus exact rfl); (focus exact rfl); focus (intro _; (refine lo_conv tok rfl rfl rfl rfl w3 ?_); exact det_refl)
    apply w_q; (focus exact rfl); (focus exact rfl); focus (intro _; (refine lo_call h3 rfl (by repeat (first | exact rzs_nil | apply rzs_cons | exact rz_c | exact rz_nil rfl | apply rz_agg | exact rz_own rfl | apply rz_fn | exact rz_ptr rfl | apply rz_tup)) ?_; rintro _ rfl); exact det_refl)
    apply w_q; (focus exact rfl); (focus exact rfl); focus (intro _; (refine zCatb ([kb k] ++ uv fm ++ uv tt) (uv n) (by simp only [List.length_append, List.length_cons, List.length_nil, sz_len]; omega) ?_); exact det_refl)
    refine gW ?_
    apply w_q; (focus exact rfl); (focus exact rfl); focus (intro _; (refine lo_conv tok rfl rfl rfl rfl w4 ?_); exact det_refl)
    apply w_q; (focus exact rfl); (focus exact rfl); focus (intro _; (refine lo_call h4 rfl (by repeat (first | exact rzs_nil | apply rzs_cons | exact rz_c | exact rz_nil rfl | apply rz_agg | exact rz_own rfl | apply rz_fn | exact rz_ptr rfl | apply rz_tup)) ?_; rintro _ rfl); exact det_refl)
    apply w_q; (focus exact rfl); (focus exact rfl); focus (intro _; (refine zCatb ([kb k] ++ uv fm ++ uv tt ++ uv n) (uv t.size) (by simp only [List.length_append, List.length_cons, List.length_nil, sz_len]; omega) ?_); exact det_refl)
    refine gW ?_
    apply w_q; (focus exact rfl); (focus exact rfl); focus (intro _; (refine zCatb ([kb k] ++ uv fm ++ uv tt ++ uv n ++ uv t.size) (t.data.toList) (by simp only [List.length_append, List.length_cons, List.length_nil, sz_len]; omega) ?_); exact det_refl)
    refine gW ?_
    refine w_nil ?_
    repeat (first | refine gG ?_ | refine zN1 (fun hlen => ?_) | refine zN2 (fun hlen => ?_) | refine zBx (fun _ => ?_))
    refine zCall (h5) ?_
    rintro _ rfl
    repeat (first | refine gG ?_ | refine zN1 (fun hlen => ?_) | refine zN2 (fun hlen => ?_) | refine zBx (fun _ => ?_))
    refine zCatb ([kb k] ++ uv fm ++ uv tt ++ uv n ++ uv t.size ++ t.data.toList) vb (by simp only [List.length_append, List.length_cons, List.length_nil, sz_len]; omega) ?_
    repeat (first | refine gG ?_ | refine zN1 (fun hlen => ?_) | refine zN2 (fun hlen => ?_) | refine zBx (fun _ => ?_))
    first | refine zR ?_ | refine zQ ?_
    simp only [List.append_assoc, List.cons_append, List.nil_append]; rfl
  · rw [if_neg hk] at hb ⊢
    have d1 : decide (k = 1) = false := decide_eq_false hk
    obtain ⟨kv, nv, tv, lv⟩ := v
    refine af_enter tok Try.func88 Try.ntmps88 Try.results88 rfl (by kernel_rfl) rfl rfl fun F hX => ?_
    repeat (first | refine gG ?_ | refine zN1 (fun hlen => ?_) | refine zN2 (fun hlen => ?_) | refine zBf ?_)
    refine ac_draw [1, 1, 1, 1, 1, 1, 1, 1, 1, 1, 1, 1, 1, 1, 1, 1, 1, 1, 1, 1, 1, 1, 1, 1, 1, 1, 1, 1, 1, 1] [0, 1, 2, 3, 4, 5, 6, 7, 8, 9, 10, 11, 12, 13, 14, 15, 16, 17, 18, 19, 20, 21, 22, 23, 24, 25, 26, 27, 28, 29] (by kernel_rfl) (by kernel_rfl) ?_
    refine gW ?_
    apply w_q; (focus exact rfl); (focus exact rfl); focus (intro _; (refine lo_conv tok rfl rfl rfl rfl rfl ?_); exact det_refl)
    refine gW ?_
    apply w_q; (focus exact rfl); (focus exact rfl); focus (intro _; (refine zStr [kb k] (one_kb k) rfl ?_); exact det_refl)
    refine gW ?_
    apply w_q; (focus exact rfl); (focus exact rfl); focus (intro _; (refine lo_conv tok rfl rfl rfl rfl w1 ?_); exact det_refl)
    apply w_q; (focus exact rfl); (focus exact rfl); focus (intro _; (refine lo_call h1 rfl (by repeat (first | exact rzs_nil | apply rzs_cons | exact rz_c | exact rz_nil rfl | apply rz_agg | exact rz_own rfl | apply rz_fn | exact rz_ptr rfl | apply rz_tup)) ?_; rintro _ rfl); exact det_refl)
    apply w_q; (focus exact rfl); (focus exact rfl); focus (intro _; (refine zCatb ([kb k]) (uv fm) (by simp only [List.length_append, List.length_cons, List.length_nil, sz_len]; omega) ?_); exact det_refl)
    refine gW ?_
    apply w_q; (focus exact rfl); (focus exact rfl); focus (intro _; (refine lo_conv tok rfl rfl rfl rfl w2 ?_); exact det_refl)
    apply w_q; (focus exact rfl); (focus exact rfl); focus (intro _; (refine lo_call h2 rfl (by repeat (first | exact rzs_nil | apply rzs_cons | exact rz_c | exact rz_nil rfl | apply rz_agg | exact rz_own rfl | apply rz_fn | exact rz_ptr rfl | apply rz_tup)) ?_; rintro _ rfl); exact det_refl)
    apply w_q; (focus exact rfl); (focus exact rfl); focus (intro _; (refine zCatb ([kb k] ++ uv fm) (uv tt) (by simp only [List.length_append, List.length_cons, List.length_nil, sz_len]; omega) ?_); exact det_refl)
    refine gW ?_
    apply w_q; (focus exact rfl); (focus exact rfl); focus (intro _; (refine lo_conv tok rfl rfl rfl rfl w3 ?_); exact det_refl)
    apply w_q; (focus exact rfl); (focus exact rfl); focus (intro _; (refine lo_call h3 rfl (by repeat (first | exact rzs_nil | apply rzs_cons | exact rz_c | exact rz_nil rfl | apply rz_agg | exact rz_own rfl | apply rz_fn | exact rz_ptr rfl | apply rz_tup)) ?_; rintro _ rfl); exact det_refl)
    apply w_q; (focus exact rfl); (focus exact rfl); focus (intro _; (refine zCatb ([kb k] ++ uv fm ++ uv tt) (uv n) (by simp only [List.length_append, List.length_cons, List.length_nil, sz_len]; omega) ?_); exact det_refl)
    refine gW ?_
    apply w_q; (focus exact rfl); (focus exact rfl); focus (intro _; (refine lo_conv tok rfl rfl rfl rfl w4 ?_); exact det_refl)
    apply w_q; (focus exact rfl); (focus exact rfl); focus (intro _; (refine lo_call h4 rfl (by repeat (first | exact rzs_nil | apply rzs_cons | exact rz_c | exact rz_nil rfl | apply rz_agg | exact rz_own rfl | apply rz_fn | exact rz_ptr rfl | apply rz_tup)) ?_; rintro _ rfl); exact det_refl)
    apply w_q; (focus exact rfl); (focus exact rfl); focus (intro _; (refine zCatb ([kb k] ++ uv fm ++ uv tt ++ uv n) (uv t.size) (by simp only [List.length_append, List.length_cons, List.length_nil, sz_len]; omega) ?_); exact det_refl)
    refine gW ?_
    apply w_q; (focus exact rfl); (focus exact rfl); focus (intro _; (refine zCatb ([kb k] ++ uv fm ++ uv tt ++ uv n ++ uv t.size) (t.data.toList) (by simp only [List.length_append, List.length_cons, List.length_nil, sz_len]; omega) ?_); exact det_refl)
    refine gW ?_
    refine w_nil ?_
    repeat (first | refine gG ?_ | refine zN1 (fun hlen => ?_) | refine zN2 (fun hlen => ?_) | refine zBx (fun _ => ?_))
    first | refine zR ?_ | refine zQ ?_
    simp only [List.append_assoc, List.cons_append, List.nil_append, List.append_nil]; rfl
end Go.Proofs.Ythgackidonocpaa
namespace Go.Proofs.Ythgackidonocpaa
open Go.RowKit
set_option maxRecDepth 100000 in
set_option maxHeartbeats 4000000 in
theorem letterR_ag (b : Nat) (s : RS) (hd : s.dep ≤ 1000) (hl : s.l.length ≤ 1099511627776) : AG Try.prog 84 [.ptr 0 b 0] [rdB b s] (Gives b (rLet s).1.t (rLet s).2) := by
  unfold rLet
  dsimp only
  have c1 := byte_ag b s
  have l1 := rByte_len s
  have p1 := rByte_dep s
  generalize rByte s = q1 at *
  obtain ⟨k, s1⟩ := q1
  dsimp only at c1 l1 p1 ⊢
  have c2 := natR_ag b s1
  have l2 := rNat_len s1
  have p2 := rNat_dep s1
  generalize rNat s1 = q2 at *
  obtain ⟨fm, s2⟩ := q2
  dsimp only at c2 l2 p2 ⊢
  have c3 := natR_ag b s2
  have l3 := rNat_len s2
  have p3 := rNat_dep s2
  generalize rNat s2 = q3 at *
  obtain ⟨tt, s3⟩ := q3
  dsimp only at c3 l3 p3 ⊢
  have c4 := natR_ag b s3
  have l4 := rNat_len s3
  have p4 := rNat_dep s3
  generalize rNat s3 = q4 at *
  obtain ⟨n, s4⟩ := q4
  dsimp only at c4 l4 p4 ⊢
  have c5 := textR_ag b s4
  have l5 := rText_len s4
  have p5 := rText_dep s4
  generalize rText s4 = q5 at *
  obtain ⟨t, s5⟩ := q5
  dsimp only at c5 l5 p5 ⊢
  have c6 := valueR_ag b 40 s5 (by omega) (by omega) (by omega)
  generalize rVal 40 s5 = q6 at *
  obtain ⟨⟨kv, nv, tv, lv⟩, s6⟩ := q6
  dsimp only at c6 ⊢
  refine AG.re (R := fun r hs => Re r (.c (if k = 1 then (Lt.mk k fm tt n (bs t) (.mk kv nv tv lv), s6) else (Lt.mk k fm tt n (bs t) V.zero, s5)).1.t) ∧ hs = [rdB b (if k = 1 then (Lt.mk k fm tt n (bs t) (.mk kv nv tv lv), s6) else (Lt.mk k fm tt n (bs t) V.zero, s5)).2]) ?_ (fun r hs h => ⟨_, h.1, rfl, h.2⟩)
  refine ag_enter 1 tok Try.func84 Try.ntmps84 Try.results84 rfl (by kernel_rfl) rfl fun F => ?_
  repeat (first | refine gG ?_ | refine zAl (fun _ => ?_))
  rename_i b2
  refine x_join [4, 5, 6, 7, 8, 9, 10, 11, 12, 13, 14, 15, 16, 17, 18, 19, 20, 21, 22, 23, 24, 3] (fun b3 : Nat => [(3, .ptr 2 b3 0)]) (fun b3 => [rdB b s5, .box b2 38 [.c (.lit (.int .i64 0)), .c (.lit (.int .i64 0)), .c (.lit (.int .i64 0)), .c (.lit (.int .i64 0)), .c (.lit (.string ⟨#[]⟩)), .c (.lit (.int .i64 0)), .c (.lit (.int .i64 0)), .c (.lit (.string ⟨#[]⟩)), .c (.lit (.slice none 0 0))], .box b3 38 [.c (.lit (.int .i64 (k : Int))), .c (.lit (.int .i64 (fm : Int))), .c (.lit (.int .i64 (tt : Int))), .c (.lit (.int .i64 (n : Int))), .c (.lit (.string (bs t))), .c (.lit (.int .i64 0)), .c (.lit (.int .i64 0)), .c (.lit (.string ⟨#[]⟩)), .c (.lit (.slice none 0 0))]]) ?_ ?_
  rotate_left
  · skip
    refine ac_drawT [0, 0, 0, 2, 0, 0, 0, 2, 0, 0, 0, 2, 0, 0, 0, 2, 0, 0, 0, 2, 0, 3, 2] (.fork [0, 1, 2, 4, 5, 6, 8, 9, 10, 12, 13, 14, 16, 17, 18] 3 (.fork [] 7 (.fork [] 11 (.fork [] 15 (.fork [] 19 (.fin [20, 21, 22]) 21 (.fin [19, 20, 22])) 21 (.fin [15, 19, 20, 22])) 21 (.fin [11, 15, 19, 20, 22])) 21 (.fin [7, 11, 15, 19, 20, 22])) 21 (.fin [3, 7, 11, 15, 19, 20, 22])) (by kernel_rfl) (by kernel_rfl) ?_
    refine wt_fork ?_
    refine gW ?_
    refine w_nil ?_
    refine ⟨?_, ?_⟩
    · apply w_l; (focus exact rfl); (focus exact rfl); (refine zCallG [0] c1 ?_; rintro _ _ ⟨rfl, rfl⟩; refine ⟨_, _, re_refl, rfl, rfl, ?_⟩)
      refine w_nil ?_
      refine wt_fork ?_
      refine w_nil ?_
      refine ⟨?_, ?_⟩
      · apply w_l; (focus exact rfl); (focus exact rfl); (refine zCallG [0] c2 ?_; rintro _ _ ⟨rfl, rfl⟩; refine ⟨_, _, re_refl, rfl, rfl, ?_⟩)
        refine w_nil ?_
        refine wt_fork ?_
        refine w_nil ?_
        refine ⟨?_, ?_⟩
        · apply w_l; (focus exact rfl); (focus exact rfl); (refine zCallG [0] c3 ?_; rintro _ _ ⟨rfl, rfl⟩; refine ⟨_, _, re_refl, rfl, rfl, ?_⟩)
          refine w_nil ?_
          refine wt_fork ?_
          refine w_nil ?_
          refine ⟨?_, ?_⟩
          · apply w_l; (focus exact rfl); (focus exact rfl); (refine zCallG [0] c4 ?_; rintro _ _ ⟨rfl, rfl⟩; refine ⟨_, _, re_refl, rfl, rfl, ?_⟩)
            refine w_nil ?_
            refine wt_fork ?_
            refine w_nil ?_
            refine ⟨?_, ?_⟩
            · apply w_l; (focus exact rfl); (focus exact rfl); (refine zCallG [0] c5 ?_; rintro _ _ ⟨rfl, rfl⟩; refine ⟨_, _, re_refl, rfl, rfl, ?_⟩)
              refine w_nil ?_
              refine wt_fin ?_
              refine gW ?_
              apply w_a; (focus exact rfl); (focus exact rfl); refine v_alloc tok rfl rfl rfl (fun _ => rfl) (fun _ => ⟨⟨_, rfl⟩, ?_⟩)
              apply w_l; (focus exact rfl); (focus exact rfl); (first | (refine zkL ?_; first | refine zL1 ?_ | refine zL2 ?_ | refine zL3 ?_ | refine zLp ?_) | refine zM ?_ | (refine zkF ?_; first | refine zF1 ?_ | refine zF2 ?_ | refine zF3 ?_) | refine zA ?_ | (refine zkB ?_; first | refine zC5 ?_ | refine zC6 ?_ | refine zC1 ?_ | refine zC2 ?_ | refine zC3 ?_ | refine zC4 ?_ | refine zS5 ?_ | refine zS6 ?_ | refine zS1 ?_ | refine zS2 ?_ | refine zS3 ?_ | refine zS4 ?_ | refine zInc ?_ | refine zQ1 ?_ | refine zQ2 ?_ | refine zQ3 ?_ | refine zQ4 ?_ | refine zQ5 ?_ | refine zQ6 ?_) | (refine zkI ?_; first | refine zN1 (fun hlen => ?_) | refine zN2 (fun hlen => ?_) | refine zN3 ?_ | refine zN4 ?_ | refine zAp (fun _ => ?_)) | refine zS ?_ | refine zAl (fun _ => ?_) | refine zBx (fun _ => ?_) | refine zPt ?_ | refine zPf ?_ | refine zE ?_ | refine zEA ?_ | refine zNot ?_ | refine zBd ?_ | refine zBs ?_ | refine zFn ?_ | refine zK1 ?_ | refine zK2 ?_)
              refine w_nil ?_
              exact ⟨_, x_wkd 3 ⟨rfl, trivial⟩ rfl (by repeat (first | exact ag_refl | refine ag_upd rfl ?_ | refine ag_at rfl rfl ?_))⟩
            · apply w_a; (focus exact rfl); (focus exact rfl); refine v_alloc tok rfl rfl rfl (fun _ => rfl) (fun _ => ⟨⟨_, rfl⟩, ?_⟩)
              refine w_nil ?_
              refine wt_fin ?_
              apply w_l; (focus exact rfl); (focus exact rfl); (refine zCallG [0] c5 ?_; rintro _ _ ⟨rfl, rfl⟩; refine ⟨_, _, re_refl, rfl, rfl, ?_⟩)
              refine gW ?_
              apply w_l; (focus exact rfl); (focus exact rfl); (first | (refine zkL ?_; first | refine zL1 ?_ | refine zL2 ?_ | refine zL3 ?_ | refine zLp ?_) | refine zM ?_ | (refine zkF ?_; first | refine zF1 ?_ | refine zF2 ?_ | refine zF3 ?_) | refine zA ?_ | (refine zkB ?_; first | refine zC5 ?_ | refine zC6 ?_ | refine zC1 ?_ | refine zC2 ?_ | refine zC3 ?_ | refine zC4 ?_ | refine zS5 ?_ | refine zS6 ?_ | refine zS1 ?_ | refine zS2 ?_ | refine zS3 ?_ | refine zS4 ?_ | refine zInc ?_ | refine zQ1 ?_ | refine zQ2 ?_ | refine zQ3 ?_ | refine zQ4 ?_ | refine zQ5 ?_ | refine zQ6 ?_) | (refine zkI ?_; first | refine zN1 (fun hlen => ?_) | refine zN2 (fun hlen => ?_) | refine zN3 ?_ | refine zN4 ?_ | refine zAp (fun _ => ?_)) | refine zS ?_ | refine zAl (fun _ => ?_) | refine zBx (fun _ => ?_) | refine zPt ?_ | refine zPf ?_ | refine zE ?_ | refine zEA ?_ | refine zNot ?_ | refine zBd ?_ | refine zBs ?_ | refine zFn ?_ | refine zK1 ?_ | refine zK2 ?_)
              refine w_nil ?_
              exact ⟨_, x_wkd 3 ⟨rfl, trivial⟩ rfl (by repeat (first | exact ag_refl | refine ag_upd rfl ?_ | refine ag_at rfl rfl ?_))⟩
          · apply w_a; (focus exact rfl); (focus exact rfl); refine v_alloc tok rfl rfl rfl (fun _ => rfl) (fun _ => ⟨⟨_, rfl⟩, ?_⟩)
            refine w_nil ?_
            refine wt_fin ?_
            apply w_l; (focus exact rfl); (focus exact rfl); (refine zCallG [0] c4 ?_; rintro _ _ ⟨rfl, rfl⟩; refine ⟨_, _, re_refl, rfl, rfl, ?_⟩)
            apply w_l; (focus exact rfl); (focus exact rfl); (refine zCallG [0] c5 ?_; rintro _ _ ⟨rfl, rfl⟩; refine ⟨_, _, re_refl, rfl, rfl, ?_⟩)
            refine gW ?_
            apply w_l; (focus exact rfl); (focus exact rfl); (first | (refine zkL ?_; first | refine zL1 ?_ | refine zL2 ?_ | refine zL3 ?_ | refine zLp ?_) | refine zM ?_ | (refine zkF ?_; first | refine zF1 ?_ | refine zF2 ?_ | refine zF3 ?_) | refine zA ?_ | (refine zkB ?_; first | refine zC5 ?_ | refine zC6 ?_ | refine zC1 ?_ | refine zC2 ?_ | refine zC3 ?_ | refine zC4 ?_ | refine zS5 ?_ | refine zS6 ?_ | refine zS1 ?_ | refine zS2 ?_ | refine zS3 ?_ | refine zS4 ?_ | refine zInc ?_ | refine zQ1 ?_ | refine zQ2 ?_ | refine zQ3 ?_ | refine zQ4 ?_ | refine zQ5 ?_ | refine zQ6 ?_) | (refine zkI ?_; first | refine zN1 (fun hlen => ?_) | refine zN2 (fun hlen => ?_) | refine zN3 ?_ | refine zN4 ?_ | refine zAp (fun _ => ?_)) | refine zS ?_ | refine zAl (fun _ => ?_) | refine zBx (fun _ => ?_) | refine zPt ?_ | refine zPf ?_ | refine zE ?_ | refine zEA ?_ | refine zNot ?_ | refine zBd ?_ | refine zBs ?_ | refine zFn ?_ | refine zK1 ?_ | refine zK2 ?_)
            refine w_nil ?_
            exact ⟨_, x_wkd 3 ⟨rfl, trivial⟩ rfl (by repeat (first | exact ag_refl | refine ag_upd rfl ?_ | refine ag_at rfl rfl ?_))⟩
        · apply w_a; (focus exact rfl); (focus exact rfl); refine v_alloc tok rfl rfl rfl (fun _ => rfl) (fun _ => ⟨⟨_, rfl⟩, ?_⟩)
          refine w_nil ?_
          refine wt_fin ?_
          apply w_l; (focus exact rfl); (focus exact rfl); (refine zCallG [0] c3 ?_; rintro _ _ ⟨rfl, rfl⟩; refine ⟨_, _, re_refl, rfl, rfl, ?_⟩)
          apply w_l; (focus exact rfl); (focus exact rfl); (refine zCallG [0] c4 ?_; rintro _ _ ⟨rfl, rfl⟩; refine ⟨_, _, re_refl, rfl, rfl, ?_⟩)
          apply w_l; (focus exact rfl); (focus exact rfl); (refine zCallG [0] c5 ?_; rintro _ _ ⟨rfl, rfl⟩; refine ⟨_, _, re_refl, rfl, rfl, ?_⟩)
          refine gW ?_
          apply w_l; (focus exact rfl); (focus exact rfl); (first | (refine zkL ?_; first | refine zL1 ?_ | refine zL2 ?_ | refine zL3 ?_ | refine zLp ?_) | refine zM ?_ | (refine zkF ?_; first | refine zF1 ?_ | refine zF2 ?_ | refine zF3 ?_) | refine zA ?_ | (refine zkB ?_; first | refine zC5 ?_ | refine zC6 ?_ | refine zC1 ?_ | refine zC2 ?_ | refine zC3 ?_ | refine zC4 ?_ | refine zS5 ?_ | refine zS6 ?_ | refine zS1 ?_ | refine zS2 ?_ | refine zS3 ?_ | refine zS4 ?_ | refine zInc ?_ | refine zQ1 ?_ | refine zQ2 ?_ | refine zQ3 ?_ | refine zQ4 ?_ | refine zQ5 ?_ | refine zQ6 ?_) | (refine zkI ?_; first | refine zN1 (fun hlen => ?_) | refine zN2 (fun hlen => ?_) | refine zN3 ?_ | refine zN4 ?_ | refine zAp (fun _ => ?_)) | refine zS ?_ | refine zAl (fun _ => ?_) | refine zBx (fun _ => ?_) | refine zPt ?_ | refine zPf ?_ | refine zE ?_ | refine zEA ?_ | refine zNot ?_ | refine zBd ?_ | refine zBs ?_ | refine zFn ?_ | refine zK1 ?_ | refine zK2 ?_)
          refine w_nil ?_
          exact ⟨_, x_wkd 3 ⟨rfl, trivial⟩ rfl (by repeat (first | exact ag_refl | refine ag_upd rfl ?_ | refine ag_at rfl rfl ?_))⟩
      · apply w_a; (focus exact rfl); (focus exact rfl); refine v_alloc tok rfl rfl rfl (fun _ => rfl) (fun _ => ⟨⟨_, rfl⟩, ?_⟩)
        refine w_nil ?_
        refine wt_fin ?_
        apply w_l; (focus exact rfl); (focus exact rfl); (refine zCallG [0] c2 ?_; rintro _ _ ⟨rfl, rfl⟩; refine ⟨_, _, re_refl, rfl, rfl, ?_⟩)
        apply w_l; (focus exact rfl); (focus exact rfl); (refine zCallG [0] c3 ?_; rintro _ _ ⟨rfl, rfl⟩; refine ⟨_, _, re_refl, rfl, rfl, ?_⟩)
        apply w_l; (focus exact rfl); (focus exact rfl); (refine zCallG [0] c4 ?_; rintro _ _ ⟨rfl, rfl⟩; refine ⟨_, _, re_refl, rfl, rfl, ?_⟩)
        apply w_l; (focus exact rfl); (focus exact rfl); (refine zCallG [0] c5 ?_; rintro _ _ ⟨rfl, rfl⟩; refine ⟨_, _, re_refl, rfl, rfl, ?_⟩)
        refine gW ?_
        apply w_l; (focus exact rfl); (focus exact rfl); (first | (refine zkL ?_; first | refine zL1 ?_ | refine zL2 ?_ | refine zL3 ?_ | refine zLp ?_) | refine zM ?_ | (refine zkF ?_; first | refine zF1 ?_ | refine zF2 ?_ | refine zF3 ?_) | refine zA ?_ | (refine zkB ?_; first | refine zC5 ?_ | refine zC6 ?_ | refine zC1 ?_ | refine zC2 ?_ | refine zC3 ?_ | refine zC4 ?_ | refine zS5 ?_ | refine zS6 ?_ | refine zS1 ?_ | refine zS2 ?_ | refine zS3 ?_ | refine zS4 ?_ | refine zInc ?_ | refine zQ1 ?_ | refine zQ2 ?_ | refine zQ3 ?_ | refine zQ4 ?_ | refine zQ5 ?_ | refine zQ6 ?_) | (refine zkI ?_; first | refine zN1 (fun hlen => ?_) | refine zN2 (fun hlen => ?_) | refine zN3 ?_ | refine zN4 ?_ | refine zAp (fun _ => ?_)) | refine zS ?_ | refine zAl (fun _ => ?_) | refine zBx (fun _ => ?_) | refine zPt ?_ | refine zPf ?_ | refine zE ?_ | refine zEA ?_ | refine zNot ?_ | refine zBd ?_ | refine zBs ?_ | refine zFn ?_ | refine zK1 ?_ | refine zK2 ?_)
        refine w_nil ?_
        exact ⟨_, x_wkd 3 ⟨rfl, trivial⟩ rfl (by repeat (first | exact ag_refl | refine ag_upd rfl ?_ | refine ag_at rfl rfl ?_))⟩
    · apply w_a; (focus exact rfl); (focus exact rfl); refine v_alloc tok rfl rfl rfl (fun _ => rfl) (fun _ => ⟨⟨_, rfl⟩, ?_⟩)
      refine w_nil ?_
      refine wt_fin ?_
      apply w_l; (focus exact rfl); (focus exact rfl); (refine zCallG [0] c1 ?_; rintro _ _ ⟨rfl, rfl⟩; refine ⟨_, _, re_refl, rfl, rfl, ?_⟩)
      apply w_l; (focus exact rfl); (focus exact rfl); (refine zCallG [0] c2 ?_; rintro _ _ ⟨rfl, rfl⟩; refine ⟨_, _, re_refl, rfl, rfl, ?_⟩)
      apply w_l; (focus exact rfl); (focus exact rfl); (refine zCallG [0] c3 ?_; rintro _ _ ⟨rfl, rfl⟩; refine ⟨_, _, re_refl, rfl, rfl, ?_⟩)
      apply w_l; (focus exact rfl); (focus exact rfl); (refine zCallG [0] c4 ?_; rintro _ _ ⟨rfl, rfl⟩; refine ⟨_, _, re_refl, rfl, rfl, ?_⟩)
      apply w_l; (focus exact rfl); (focus exact rfl); (refine zCallG [0] c5 ?_; rintro _ _ ⟨rfl, rfl⟩; refine ⟨_, _, re_refl, rfl, rfl, ?_⟩)
      refine gW ?_
      apply w_l; (focus exact rfl); (focus exact rfl); (first | (refine zkL ?_; first | refine zL1 ?_ | refine zL2 ?_ | refine zL3 ?_ | refine zLp ?_) | refine zM ?_ | (refine zkF ?_; first | refine zF1 ?_ | refine zF2 ?_ | refine zF3 ?_) | refine zA ?_ | (refine zkB ?_; first | refine zC5 ?_ | refine zC6 ?_ | refine zC1 ?_ | refine zC2 ?_ | refine zC3 ?_ | refine zC4 ?_ | refine zS5 ?_ | refine zS6 ?_ | refine zS1 ?_ | refine zS2 ?_ | refine zS3 ?_ | refine zS4 ?_ | refine zInc ?_ | refine zQ1 ?_ | refine zQ2 ?_ | refine zQ3 ?_ | refine zQ4 ?_ | refine zQ5 ?_ | refine zQ6 ?_) | (refine zkI ?_; first | refine zN1 (fun hlen => ?_) | refine zN2 (fun hlen => ?_) | refine zN3 ?_ | refine zN4 ?_ | refine zAp (fun _ => ?_)) | refine zS ?_ | refine zAl (fun _ => ?_) | refine zBx (fun _ => ?_) | refine zPt ?_ | refine zPf ?_ | refine zE ?_ | refine zEA ?_ | refine zNot ?_ | refine zBd ?_ | refine zBs ?_ | refine zFn ?_ | refine zK1 ?_ | refine zK2 ?_)
      refine w_nil ?_
      exact ⟨_, x_wkd 3 ⟨rfl, trivial⟩ rfl (by repeat (first | exact ag_refl | refine ag_upd rfl ?_ | refine ag_at rfl rfl ?_))⟩
  intro b3
  cases d1 : decide ((k : Int) = 1)
  · have h1 : ¬ k = 1 := by have := of_decide_eq_false d1; omega
    rw [if_neg h1]
    repeat (first | refine gG ?_ | refine zAl (fun _ => ?_))
    refine zG ?_
    exact ⟨re_cls (by repeat (first | exact rzs_nil | apply rzs_cons | exact rz_c | exact rz_nil rfl | apply rz_agg | exact rz_own rfl | apply rz_fn | exact rz_ptr rfl | apply rz_tup)), rfl⟩
  · have h1 : k = 1 := by have := of_decide_eq_true d1; omega
    rw [if_pos h1]
    repeat (first | refine gG ?_ | refine zAl (fun _ => ?_))
    refine zCallG [0] c6 ?_
    rintro _ _ ⟨rfl, rfl⟩
    refine ⟨_, _, re_refl, rfl, rfl, ?_⟩
    repeat (first | refine gG ?_ | refine zAl (fun _ => ?_))
    refine zG ?_
    exact ⟨re_cls (by repeat (first | exact rzs_nil | apply rzs_cons | exact rz_c | exact rz_nil rfl | apply rz_agg | exact rz_own rfl | apply rz_fn | exact rz_ptr rfl | apply rz_tup)), rfl⟩
set_option maxRecDepth 100000 in
set_option maxHeartbeats 4000000 in
theorem letterT_ag (b : Nat) (s : TS) : AG Try.prog 85 [.ptr 0 b 0] [tkB b s] (Takes b (tLet s).1.t (tLet s).2) := by
  unfold tLet
  dsimp only
  have c1 := one_ag b s
  generalize tOne s = q1 at *
  obtain ⟨k, s1⟩ := q1
  dsimp only at c1 ⊢
  have c2 := tnat_ag b s1
  generalize tNat s1 = q2 at *
  obtain ⟨fm, s2⟩ := q2
  dsimp only at c2 ⊢
  have c3 := tnat_ag b s2
  generalize tNat s2 = q3 at *
  obtain ⟨tt, s3⟩ := q3
  dsimp only at c3 ⊢
  have c4 := tnat_ag b s3
  generalize tNat s3 = q4 at *
  obtain ⟨n, s4⟩ := q4
  dsimp only at c4 ⊢
  have c5 := ttext_ag b s4
  generalize tText s4 = q5 at *
  obtain ⟨t, s5⟩ := q5
  dsimp only at c5 ⊢
  have c6 := whole_ag b s5
  generalize tWhole s5 = q6 at *
  obtain ⟨⟨kv, nv, tv, lv⟩, s6⟩ := q6
  dsimp only at c6 ⊢
  refine AG.re (R := fun r hs => Re r (.c (if k = 1 ∧ s5.ok = true then (Lt.mk k fm tt n (bs t) (.mk kv nv tv lv), s6) else (Lt.mk k fm tt n (bs t) V.zero, s5)).1.t) ∧ hs = [tkB b (if k = 1 ∧ s5.ok = true then (Lt.mk k fm tt n (bs t) (.mk kv nv tv lv), s6) else (Lt.mk k fm tt n (bs t) V.zero, s5)).2]) ?_ (fun r hs h => ⟨_, h.1, rfl, h.2⟩)
  refine ag_enter 1 tok Try.func85 Try.ntmps85 Try.results85 rfl (by kernel_rfl) rfl fun F => ?_
  repeat (first | refine gG ?_ | refine zAl (fun _ => ?_))
  refine zCallG [0] c1 ?_
  rintro _ _ ⟨rfl, rfl⟩
  refine ⟨_, _, re_refl, rfl, rfl, ?_⟩
  repeat (first | refine gG ?_ | refine zAl (fun _ => ?_))
  refine zCallG [0] c2 ?_
  rintro _ _ ⟨rfl, rfl⟩
  refine ⟨_, _, re_refl, rfl, rfl, ?_⟩
  repeat (first | refine gG ?_ | refine zAl (fun _ => ?_))
  refine zCallG [0] c3 ?_
  rintro _ _ ⟨rfl, rfl⟩
  refine ⟨_, _, re_refl, rfl, rfl, ?_⟩
  repeat (first | refine gG ?_ | refine zAl (fun _ => ?_))
  refine zCallG [0] c4 ?_
  rintro _ _ ⟨rfl, rfl⟩
  refine ⟨_, _, re_refl, rfl, rfl, ?_⟩
  repeat (first | refine gG ?_ | refine zAl (fun _ => ?_))
  refine zCallG [0] c5 ?_
  rintro _ _ ⟨rfl, rfl⟩
  refine ⟨_, _, re_refl, rfl, rfl, ?_⟩
  cases d1 : decide ((k : Int) = 1)
  · have h1 : ¬ (k = 1 ∧ s5.ok = true) := fun h => by have := of_decide_eq_false d1; omega
    rw [if_neg h1]
    repeat (first | refine gG ?_ | refine zAl (fun _ => ?_))
    refine zG ?_
    exact ⟨re_cls (by repeat (first | exact rzs_nil | apply rzs_cons | exact rz_c | exact rz_nil rfl | apply rz_agg | exact rz_own rfl | apply rz_fn | exact rz_ptr rfl | apply rz_tup)), rfl⟩
  · have h0 : k = 1 := by have := of_decide_eq_true d1; omega
    cases d2 : s5.ok
    · rw [if_neg (fun h => by cases h.2)]
      repeat (first | refine gG ?_ | refine zAl (fun _ => ?_))
      refine zG ?_
      exact ⟨re_cls (by repeat (first | exact rzs_nil | apply rzs_cons | exact rz_c | exact rz_nil rfl | apply rz_agg | exact rz_own rfl | apply rz_fn | exact rz_ptr rfl | apply rz_tup)), rfl⟩
    · rw [if_pos ⟨h0, rfl⟩]
      repeat (first | refine gG ?_ | refine zAl (fun _ => ?_))
      refine zCallG [0] c6 ?_
      rintro _ _ ⟨rfl, rfl⟩
      refine ⟨_, _, re_refl, rfl, rfl, ?_⟩
      repeat (first | refine gG ?_ | refine zAl (fun _ => ?_))
      refine zG ?_
      exact ⟨re_cls (by repeat (first | exact rzs_nil | apply rzs_cons | exact rz_c | exact rz_nil rfl | apply rz_agg | exact rz_own rfl | apply rz_fn | exact rz_ptr rfl | apply rz_tup)), rfl⟩
end Go.Proofs.Ythgackidonocpaa
namespace Go.Proofs.Ythgackidonocpaa
open Go.RowKit
theorem Par.check_3 {p : Par} (h : (decide (p.ref < 1) || decide (p.ticks < -1)) = true) : p.check = 3 := by unfold Par.check; rw [if_pos h]
theorem Par.check_2 {p : Par} (h : (decide (p.ref < 1) || decide (p.ticks < -1)) = false) (h2 : (decide ((60 : Int) < (p.box.length : Int)) || decide ((1000 : Int) < (p.wat.length : Int)) || decide ((1000 : Int) < (p.lnk.length : Int))) = true) : p.check = 2 := by unfold Par.check; rw [if_neg (by rw [h]; decide), if_pos h2]
theorem Par.check_s {p : Par} (h : (decide (p.ref < 1) || decide (p.ticks < -1)) = false) (h2 : (decide ((60 : Int) < (p.box.length : Int)) || decide ((1000 : Int) < (p.wat.length : Int)) || decide ((1000 : Int) < (p.lnk.length : Int))) = false) (h3 : ¬ p.sav.check = 0) : p.check = p.sav.check := by unfold Par.check; rw [if_neg (by rw [h]; decide), if_neg (by rw [h2]; decide), if_pos h3]
theorem Par.check_b {p : Par} (h : (decide (p.ref < 1) || decide (p.ticks < -1)) = false) (h2 : (decide ((60 : Int) < (p.box.length : Int)) || decide ((1000 : Int) < (p.wat.length : Int)) || decide ((1000 : Int) < (p.lnk.length : Int))) = false) (h3 : p.sav.check = 0) (h4 : ¬ errs (p.box.map Lt.check) = 0) : p.check = errs (p.box.map Lt.check) := by unfold Par.check; rw [if_neg (by rw [h]; decide), if_neg (by rw [h2]; decide), if_neg (fun g => g h3), if_pos h4]
theorem Par.check_l {p : Par} (h : (decide (p.ref < 1) || decide (p.ticks < -1)) = false) (h2 : (decide ((60 : Int) < (p.box.length : Int)) || decide ((1000 : Int) < (p.wat.length : Int)) || decide ((1000 : Int) < (p.lnk.length : Int))) = false) (h3 : p.sav.check = 0) (h4 : errs (p.box.map Lt.check) = 0) : p.check = if (p.wat.any low1 || p.lnk.any low1) = true then 3 else 0 := by unfold Par.check; rw [if_neg (by rw [h]; decide), if_neg (by rw [h2]; decide), if_neg (fun g => g h3), if_neg (fun g => g h4)]
theorem map_at {α : Type} (f : α → T) {l : List α} {k : Nat} {a : α} (h : l[k]? = some a) : (l.map f)[k * 1]? = some (f a) := by rw [Nat.mul_one, List.getElem?_map, h]; rfl
theorem int_at {l : List Int} {k : Nat} {a : Int} (h : l[k]? = some a) : (l.flatMap intTs)[k * 1]? = some (.lit (.int .i64 a)) := by
  have := flat_get intTs 1 (fun _ => rfl) (j := 0) h (by omega)
  simpa [intTs] using this
theorem any_mem {l : List Int} {n : Int} (h : n ∈ l) (hn : low1 n = true) : l.any low1 = true := List.any_eq_true.2 ⟨n, h, hn⟩
theorem any_none {l : List Int} (h : ∀ n ∈ l, low1 n = false) : l.any low1 = false := by
  rw [List.any_eq_false]
  intro n hn
  rw [h n hn]; decide
set_option maxRecDepth 100000 in
set_option maxHeartbeats 4000000 in
theorem checkParcel_af (p : Par) : AF Try.prog 44 [p.t] (· = .lit (.int .i64 p.check)) := by
  have k3 := @Par.check_3 p
  have k2 := @Par.check_2 p
  have ks := @Par.check_s p
  have kb := @Par.check_b p
  have kl := @Par.check_l p
  have hs := checkSaved_af p.sav
  obtain ⟨rf, sv, bx, tk, wt, lk⟩ := p
  dsimp only at k3 k2 ks kb kl hs
  generalize (Par.mk rf sv bx tk wt lk).check = ck at *
  generalize sv.check = cs at *
  obtain ⟨ac, st, ip⟩ := sv
  refine af_enter tok Try.func44 Try.ntmps44 Try.results44 rfl (by kernel_rfl) rfl rfl fun F hX => ?_
  cases d1 : decide (rf < 1)
  rotate_left
  · repeat (first | refine gG ?_ | refine zN1 (fun hlen => ?_) | refine zN2 (fun hlen => ?_) | refine zAl (fun _ => ?_) | refine zBf ?_)
    first | refine zR ?_ | refine zQ ?_
    rw [k3 (by rw [d1]; rfl)]; rfl
  cases d2 : decide (tk < -1)
  rotate_left
  · repeat (first | refine gG ?_ | refine zN1 (fun hlen => ?_) | refine zN2 (fun hlen => ?_) | refine zAl (fun _ => ?_) | refine zBf ?_)
    first | refine zR ?_ | refine zQ ?_
    rw [k3 (by rw [d1, d2]; rfl)]; rfl
  have j1 : (decide (rf < 1) || decide (tk < -1)) = false := by rw [d1, d2]; rfl
  cases d3 : decide ((60 : Int) < (bx.length : Int))
  rotate_left
  · repeat (first | refine gG ?_ | refine zN1 (fun hlen => ?_) | refine zN2 (fun hlen => ?_) | refine zAl (fun _ => ?_) | refine zBf ?_)
    first | refine zR ?_ | refine zQ ?_
    rw [k2 j1 (by rw [d3]; rfl)]; rfl
  cases d4 : decide ((1000 : Int) < (wt.length : Int))
  rotate_left
  · repeat (first | refine gG ?_ | refine zN1 (fun hlen => ?_) | refine zN2 (fun hlen => ?_) | refine zAl (fun _ => ?_) | refine zBf ?_)
    first | refine zR ?_ | refine zQ ?_
    rw [k2 j1 (by rw [d3, d4]; rfl)]; rfl
  cases d5 : decide ((1000 : Int) < (lk.length : Int))
  rotate_left
  · repeat (first | refine gG ?_ | refine zN1 (fun hlen => ?_) | refine zN2 (fun hlen => ?_) | refine zAl (fun _ => ?_) | refine zBf ?_)
    first | refine zR ?_ | refine zQ ?_
    rw [k2 j1 (by rw [d3, d4, d5]; rfl)]; rfl
  have j2 : (decide ((60 : Int) < (bx.length : Int)) || decide ((1000 : Int) < (wt.length : Int)) || decide ((1000 : Int) < (lk.length : Int))) = false := by rw [d3, d4, d5]; rfl
  have ks := ks j1 j2
  have kb := kb j1 j2
  have kl := kl j1 j2
  clear k3 k2 j1 j2
  repeat (first | refine gG ?_ | refine zN1 (fun hlen => ?_) | refine zN2 (fun hlen => ?_) | refine zAl (fun _ => ?_) | refine zBf ?_)
  refine zCall (hs) ?_
  rintro _ rfl
  cases c1 : decide (cs = 0)
  · repeat (first | refine gG ?_ | refine zN1 (fun hlen => ?_) | refine zN2 (fun hlen => ?_) | refine zAl (fun _ => ?_) | refine zBx (fun _ => ?_))
    first | refine zR ?_ | refine zQ ?_
    rw [ks (of_decide_eq_false c1)]; rfl
  have hs0 := of_decide_eq_true c1
  repeat (first | refine gG ?_ | refine zN1 (fun hlen => ?_) | refine zN2 (fun hlen => ?_) | refine zAl (fun _ => ?_) | refine zBx (fun _ => ?_))
  refine x_loop [2, 5, 6, 46, 47, 48, 49, 50, 51, 52, 53, 54, 55] (fun k : Nat => [(46, .c (.lit (.int .i64 k)))]) (fun _ => []) (fun k => k ≤ bx.length ∧ ∀ x ∈ bx.take k, Lt.check x = 0) (fun k => bx.length - k) 0 ⟨Nat.zero_le _, by simp⟩ ⟨rfl, trivial⟩ rfl ?_
  rintro k ⟨hk, hz⟩
  repeat (first | refine gG ?_ | refine zN1 (fun hlen => ?_) | refine zN2 (fun hlen => ?_) | refine zAl (fun _ => ?_) | refine zBx (fun _ => ?_))
  refine x_cond rfl (fun h => ?_) (fun h => ?_)
  · have hk' : k < bx.length := by simpa using h
    obtain ⟨a, ha⟩ := nth hk'
    have hs := checkLetter_af a
    have he := errs_at Lt.check hz ha
    have hsn := take_snoc (p := fun x => Lt.check x = 0) ha hz
    repeat (first | refine gG ?_ | refine zN1 (fun hlen => ?_) | refine zN2 (fun hlen => ?_) | refine zAl (fun _ => ?_) | refine zBx (fun _ => ?_))
    refine zIx (k) (hk') ?_
    repeat (first | refine gG ?_ | refine zN1 (fun hlen => ?_) | refine zN2 (fun hlen => ?_) | refine zAl (fun _ => ?_) | refine zBx (fun _ => ?_))
    refine zEl (flat_at Lt.ts 9 Lt.ts_len ha) (Lt.ts_len a) ?_
    generalize hca : a.check = ca at *
    obtain ⟨ka, fa, ta, na, sa, ⟨kv, nv, tv, lv⟩⟩ := a
    repeat (first | refine gG ?_ | refine zN1 (fun hlen => ?_) | refine zN2 (fun hlen => ?_) | refine zAl (fun _ => ?_) | refine zBx (fun _ => ?_))
    refine zCall (hs) ?_
    rintro _ rfl
    cases c2 : decide (ca = 0)
    · have c0 : ¬ ca = 0 := of_decide_eq_false c2
      repeat (first | refine gG ?_ | refine zN1 (fun hlen => ?_) | refine zN2 (fun hlen => ?_) | refine zAl (fun _ => ?_) | refine zBx (fun _ => ?_))
      first | refine zR ?_ | refine zQ ?_
      rw [kb hs0 (by rw [he c0]; exact c0), he c0]; rfl
    · have c0 : ca = 0 := of_decide_eq_true c2
      repeat (first | refine gG ?_ | refine zN1 (fun hlen => ?_) | refine zN2 (fun hlen => ?_) | refine zAl (fun _ => ?_) | refine zBx (fun _ => ?_))
      exact ⟨k + 1, ⟨hk', hsn c0⟩, by omega, x_wkd 0 ⟨rfl, trivial⟩ rfl (by repeat (first | exact ag_refl | refine ag_upd rfl ?_ | refine ag_at rfl rfl ?_))⟩
  · have hk' : k = bx.length := by have : ¬ k < bx.length := by simpa using h
                                   omega
    subst hk'
    rw [List.take_length] at hz
    have kl := kl hs0 (errs_all Lt.check hz)
    repeat (first | refine gG ?_ | refine zN1 (fun hlen => ?_) | refine zN2 (fun hlen => ?_) | refine zAl (fun _ => ?_) | refine zBx (fun _ => ?_))
    refine x_loop [2, 8, 10, 62, 63, 64, 65, 66, 67, 68, 69, 70, 71, 72, 73, 74, 75] (fun k : Nat => [(62, .c (.lit (.int .i64 k)))]) (fun _ => []) (fun k => k ≤ 2 ∧ ∀ l ∈ [wt, lk].take k, l.any low1 = false) (fun k => 2 - k) 0 ⟨Nat.zero_le _, by simp⟩ ⟨rfl, trivial⟩ rfl ?_
    rintro k ⟨hk, hz2⟩
    repeat (first | refine gG ?_ | refine zN1 (fun hlen => ?_) | refine zN2 (fun hlen => ?_) | refine zAl (fun _ => ?_) | refine zBx (fun _ => ?_))
    refine x_cond rfl (fun h => ?_) (fun h => ?_)
    · have hk' : k < 2 := by have := of_decide_eq_true h; omega
      obtain ⟨a, ha⟩ := nth (l := [wt, lk]) hk'
      have hsn2 := take_snoc (p := fun l : List Int => l.any low1 = false) ha hz2
      have ham : a = wt ∨ a = lk := by have := List.mem_of_getElem? ha; simpa using this
      repeat (first | refine gG ?_ | refine zN1 (fun hlen => ?_) | refine zN2 (fun hlen => ?_) | refine zAl (fun _ => ?_) | refine zBx (fun _ => ?_))
      refine zIx k hk' ?_
      repeat (first | refine gG ?_ | refine zN1 (fun hlen => ?_) | refine zN2 (fun hlen => ?_) | refine zAl (fun _ => ?_) | refine zBx (fun _ => ?_))
      refine zEl1 (map_at intRow ha) ?_
      repeat (first | refine gG ?_ | refine zN1 (fun hlen => ?_) | refine zN2 (fun hlen => ?_) | refine zAl (fun _ => ?_) | refine zBx (fun _ => ?_))
      refine x_loop [2, 10, 68, 69, 70, 71, 72, 73, 74] (fun j : Nat => [(68, .c (.lit (.int .i64 j)))]) (fun _ => []) (fun j => j ≤ a.length ∧ ∀ n ∈ a.take j, low1 n = false) (fun j => a.length - j) 0 ⟨Nat.zero_le _, by simp⟩ ⟨rfl, trivial⟩ rfl ?_
      rintro j ⟨hj, hz3⟩
      repeat (first | refine gG ?_ | refine zN1 (fun hlen => ?_) | refine zN2 (fun hlen => ?_) | refine zAl (fun _ => ?_) | refine zBx (fun _ => ?_))
      refine x_cond rfl (fun h => ?_) (fun h => ?_)
      · have hj' : j < a.length := by simpa using h
        obtain ⟨n, hn⟩ := nth hj'
        have hsn3 := take_snoc (p := fun n => low1 n = false) hn hz3
        repeat (first | refine gG ?_ | refine zN1 (fun hlen => ?_) | refine zN2 (fun hlen => ?_) | refine zAl (fun _ => ?_) | refine zBx (fun _ => ?_))
        refine zIx j hj' ?_
        repeat (first | refine gG ?_ | refine zN1 (fun hlen => ?_) | refine zN2 (fun hlen => ?_) | refine zAl (fun _ => ?_) | refine zBx (fun _ => ?_))
        refine zEl1 (int_at hn) ?_
        cases c3 : decide (n < 1)
        · repeat (first | refine gG ?_ | refine zN1 (fun hlen => ?_) | refine zN2 (fun hlen => ?_) | refine zAl (fun _ => ?_) | refine zBx (fun _ => ?_))
          exact ⟨j + 1, ⟨hj', hsn3 c3⟩, by omega, x_wkd 0 ⟨rfl, trivial⟩ rfl (by repeat (first | exact ag_refl | refine ag_upd rfl ?_ | refine ag_at rfl rfl ?_))⟩
        · repeat (first | refine gG ?_ | refine zN1 (fun hlen => ?_) | refine zN2 (fun hlen => ?_) | refine zAl (fun _ => ?_) | refine zBx (fun _ => ?_))
          first | refine zR ?_ | refine zQ ?_
          have := any_mem (List.mem_of_getElem? hn) c3
          rw [kl, if_pos]
          · rfl
          · rcases ham with rfl | rfl
            · rw [this]; rfl
            · rw [this, Bool.or_true]
      · have hj' : j = a.length := by have : ¬ j < a.length := by simpa using h
                                      omega
        subst hj'
        rw [List.take_length] at hz3
        repeat (first | refine gG ?_ | refine zN1 (fun hlen => ?_) | refine zN2 (fun hlen => ?_) | refine zAl (fun _ => ?_) | refine zBx (fun _ => ?_))
        exact ⟨k + 1, ⟨hk', hsn2 (any_none hz3)⟩, by omega, x_wkd 0 ⟨rfl, trivial⟩ rfl (by repeat (first | exact ag_refl | refine ag_upd rfl ?_ | refine ag_at rfl rfl ?_))⟩
    · have hk' : k = 2 := by have := of_decide_eq_false h; omega
      subst hk'
      repeat (first | refine gG ?_ | refine zN1 (fun hlen => ?_) | refine zN2 (fun hlen => ?_) | refine zAl (fun _ => ?_) | refine zBx (fun _ => ?_))
      first | refine zR ?_ | refine zQ ?_
      rw [kl, if_neg]
      · rfl
      · rw [hz2 wt (by simp), hz2 lk (by simp)]; decide
set_option maxRecDepth 100000 in
set_option maxHeartbeats 2000000 in
theorem listL_ag (f : FuncId) (enc : Lt → List UInt8) (l : List Lt) (hf : ∀ x ∈ l, ∀ (v : Value) (b : List UInt8), b.length + (enc x).length ≤ 1099511627776 → AG Try.prog f [.own 0 v, .c (.agg (Lt.ts x))] [.row v 5 1 b.length (byts b)] (Grew 5 (b ++ enc x)))
    (v : Value) (b : List UInt8) (hn : l.length < 9223372036854775808) (hb : b.length + (uv l.length ++ l.flatMap enc).length ≤ 1099511627776) :
    AG Try.prog 176 [.own 0 v, .c (letRow l), .fn (.func f) []] [.row v 5 1 b.length (byts b)] (Grew 5 (b ++ (uv l.length ++ l.flatMap enc))) := by
  have hc := nat_ag v b l.length hn (by omega)
  refine ag_enter 1 tok Try.func176 Try.ntmps176 Try.results176 rfl (by kernel_rfl) rfl fun F => ?_
  repeat (first | refine gG ?_ | refine zN1 (fun hlen => ?_) | refine zN2 (fun hlen => ?_) | refine zAl (fun _ => ?_))
  refine zCallG [0] hc ?_
  rintro _ _ ⟨v', rfl, rfl⟩
  refine ⟨.own 0 v', _, re_own, rfl, rfl, ?_⟩
  repeat (first | refine gG ?_ | refine zN1 (fun hlen => ?_) | refine zN2 (fun hlen => ?_) | refine zAl (fun _ => ?_))
  refine x_loop [0, 8, 15, 16, 17, 18, 19, 20, 21, 22, 23] (fun y : Nat × Value => [(15, .c (.lit (.int .i64 (y.1 : Nat)))), (0, .own 0 y.2)]) (fun y => [.row y.2 5 1 (b ++ (uv l.length ++ (l.take y.1).flatMap enc)).length (byts (b ++ (uv l.length ++ (l.take y.1).flatMap enc)))])
    (fun y => y.1 ≤ l.length) (fun y => l.length - y.1) (0, v') (Nat.zero_le _) ⟨rfl, rfl, trivial⟩ (by simp) ?_
  rintro ⟨k, u⟩ hk
  dsimp only at hk ⊢
  repeat (first | refine gG ?_ | refine zN1 (fun hlen => ?_) | refine zN2 (fun hlen => ?_) | refine zAl (fun _ => ?_))
  refine x_cond rfl (fun h => ?_) (fun h => ?_)
  · have hk' : k < l.length := by simpa using h
    obtain ⟨a, ha⟩ := nth hk'
    have hsn := flat_snoc' enc ha
    have hle : ((l.take (k + 1)).flatMap enc).length ≤ (l.flatMap enc).length := by
      have := congrArg (fun r => (List.flatMap enc r).length) (List.take_append_drop (k + 1) l)
      simp only [List.flatMap_append, List.length_append] at this
      omega
    have hca := hf a (List.mem_of_getElem? ha) u (b ++ (uv l.length ++ (l.take k).flatMap enc)) (by
      rw [hsn] at hle
      simp only [List.length_append] at hle hb ⊢
      omega)
    repeat (first | refine gG ?_ | refine zN1 (fun hlen => ?_) | refine zN2 (fun hlen => ?_) | refine zAl (fun _ => ?_))
    refine zIx (k) (hk') ?_
    repeat (first | refine gG ?_ | refine zN1 (fun hlen => ?_) | refine zN2 (fun hlen => ?_) | refine zAl (fun _ => ?_))
    refine zEl (flat_at Lt.ts 9 Lt.ts_len ha) (Lt.ts_len a) ?_
    obtain ⟨ka, fa, ta, na, sa, ⟨kv, nv, tv, lv⟩⟩ := a
    repeat (first | refine gG ?_ | refine zN1 (fun hlen => ?_) | refine zN2 (fun hlen => ?_) | refine zAl (fun _ => ?_))
    refine zCallG [0] hca ?_
    rintro _ _ ⟨u', rfl, rfl⟩
    refine ⟨.own 0 u', _, re_own, rfl, rfl, ?_⟩
    repeat (first | refine gG ?_ | refine zN1 (fun hlen => ?_) | refine zN2 (fun hlen => ?_) | refine zAl (fun _ => ?_))
    exact ⟨(k + 1, u'), hk', by simp only; omega, x_wkd 1 ⟨rfl, rfl, trivial⟩ (by simp only [hsn, List.append_assoc]; rfl) (by repeat (first | exact ag_refl | refine ag_upd rfl ?_ | refine ag_at rfl rfl ?_))⟩
  · have hk' : k = l.length := by have : ¬ k < l.length := by simpa using h
                                  omega
    subst hk'
    repeat (first | refine gG ?_ | refine zN1 (fun hlen => ?_) | refine zN2 (fun hlen => ?_) | refine zAl (fun _ => ?_))
    refine zG ?_
    refine ⟨_, rfl, ?_⟩
    rw [List.take_length]
set_option maxRecDepth 100000 in
set_option maxHeartbeats 2000000 in
theorem listN_ag (f : FuncId) (enc : Int → List UInt8) (l : List Int) (hf : ∀ x ∈ l, ∀ (v : Value) (b : List UInt8), b.length + (enc x).length ≤ 1099511627776 → AG Try.prog f [.own 0 v, .c (.lit (.int .i64 x))] [.row v 5 1 b.length (byts b)] (Grew 5 (b ++ enc x)))
    (v : Value) (b : List UInt8) (hn : l.length < 9223372036854775808) (hb : b.length + (uv l.length ++ l.flatMap enc).length ≤ 1099511627776) :
    AG Try.prog 177 [.own 0 v, .c (intRow l), .fn (.func f) []] [.row v 5 1 b.length (byts b)] (Grew 5 (b ++ (uv l.length ++ l.flatMap enc))) := by
  have hc := nat_ag v b l.length hn (by omega)
  refine ag_enter 1 tok Try.func177 Try.ntmps177 Try.results177 rfl (by kernel_rfl) rfl fun F => ?_
  repeat (first | refine gG ?_ | refine zN1 (fun hlen => ?_) | refine zN2 (fun hlen => ?_))
  refine zCallG [0] hc ?_
  rintro _ _ ⟨v', rfl, rfl⟩
  refine ⟨.own 0 v', _, re_own, rfl, rfl, ?_⟩
  repeat (first | refine gG ?_ | refine zN1 (fun hlen => ?_) | refine zN2 (fun hlen => ?_))
  refine x_loop [0, 8, 15, 16, 17, 18, 19, 20, 21, 22, 23] (fun y : Nat × Value => [(15, .c (.lit (.int .i64 (y.1 : Nat)))), (0, .own 0 y.2)]) (fun y => [.row y.2 5 1 (b ++ (uv l.length ++ (l.take y.1).flatMap enc)).length (byts (b ++ (uv l.length ++ (l.take y.1).flatMap enc)))])
    (fun y => y.1 ≤ l.length) (fun y => l.length - y.1) (0, v') (Nat.zero_le _) ⟨rfl, rfl, trivial⟩ (by simp) ?_
  rintro ⟨k, u⟩ hk
  dsimp only at hk ⊢
  repeat (first | refine gG ?_ | refine zN1 (fun hlen => ?_) | refine zN2 (fun hlen => ?_))
  refine x_cond rfl (fun h => ?_) (fun h => ?_)
  · have hk' : k < l.length := by simpa using h
    obtain ⟨a, ha⟩ := nth hk'
    have hsn := flat_snoc' enc ha
    have hle : ((l.take (k + 1)).flatMap enc).length ≤ (l.flatMap enc).length := by
      have := congrArg (fun r => (List.flatMap enc r).length) (List.take_append_drop (k + 1) l)
      simp only [List.flatMap_append, List.length_append] at this
      omega
    have hca := hf a (List.mem_of_getElem? ha) u (b ++ (uv l.length ++ (l.take k).flatMap enc)) (by
      rw [hsn] at hle
      simp only [List.length_append] at hle hb ⊢
      omega)
    repeat (first | refine gG ?_ | refine zN1 (fun hlen => ?_) | refine zN2 (fun hlen => ?_))
    refine zIx k hk' ?_
    repeat (first | refine gG ?_ | refine zN1 (fun hlen => ?_) | refine zN2 (fun hlen => ?_))
    refine zEl1 (int_at ha) ?_
    repeat (first | refine gG ?_ | refine zN1 (fun hlen => ?_) | refine zN2 (fun hlen => ?_))
    refine zCallG [0] hca ?_
    rintro _ _ ⟨u', rfl, rfl⟩
    refine ⟨.own 0 u', _, re_own, rfl, rfl, ?_⟩
    repeat (first | refine gG ?_ | refine zN1 (fun hlen => ?_) | refine zN2 (fun hlen => ?_))
    exact ⟨(k + 1, u'), hk', by simp only; omega, x_wkd 1 ⟨rfl, rfl, trivial⟩ (by simp only [hsn, List.append_assoc]; rfl) (by repeat (first | exact ag_refl | refine ag_upd rfl ?_ | refine ag_at rfl rfl ?_))⟩
  · have hk' : k = l.length := by have : ¬ k < l.length := by simpa using h
                                  omega
    subst hk'
    repeat (first | refine gG ?_ | refine zN1 (fun hlen => ?_) | refine zN2 (fun hlen => ?_))
    refine zG ?_
    refine ⟨_, rfl, ?_⟩
    rw [List.take_length]
theorem appendLetter_ag' {x : Lt} (h : x.check = 0) (hok : x.ok) (w : Value) (b : List UInt8) (hb : b.length + x.bytes.length ≤ 1099511627776) :
    AG Try.prog 87 [.own 0 w, .c (.agg (Lt.ts x))] [.row w 5 1 b.length (byts b)] (Grew 5 (b ++ x.bytes)) := by
  obtain ⟨k, fm, tt, n, t, v⟩ := x
  have hR := Lt.right h
  obtain ⟨a1, a2, a3, a4, a5⟩ := hok
  unfold inI at a1 a2 a3
  obtain ⟨fm, rfl⟩ := nat_of hR.fm0
  obtain ⟨tt, rfl⟩ := nat_of hR.tt0
  obtain ⟨n, rfl⟩ := nat_of hR.n0.1
  exact appendLetter_ag (k := k) (t := t) (fm := fm) (tt := tt) (n := n) (by omega) (by omega) (by omega) a4 w b hb
theorem natI_ag {n : Int} (h : 1 ≤ n) (hn : inI n) (v : Value) (b : List UInt8) (hb : b.length + (nb n).length ≤ 1099511627776) : AG Try.prog 169 [.own 0 v, .c (.lit (.int .i64 n))] [.row v 5 1 b.length (byts b)] (Grew 5 (b ++ nb n)) := by
  unfold inI at hn
  obtain ⟨m, rfl⟩ := nat_of (show 0 ≤ n by omega)
  have := nat_ag v b m (by omega) (by omega)
  simpa [nb] using this
theorem nb_le {n : Int} (hn : inI n) : (nb n).length ≤ 10 := by unfold inI at hn; exact uv_len64 (by omega)
theorem Par.bytes_le {p : Par} (hs : p.Small) (h : p.Right) : p.bytes.length ≤ 71000000000 := by
  have h0 := Sav.bytes_le hs.sav (Sav.right h.sav)
  have h1 := flat_le Lt.bytes 40000000 (l := p.box) fun x hx => (hs.box x hx).2.2.1
  have h2 := flat_le nb 10 (l := p.wat) fun n hn => nb_le (hs.wat n hn)
  have h3 := flat_le nb 10 (l := p.lnk) fun n hn => nb_le (hs.lnk n hn)
  obtain ⟨a1, a2, a3, a4, a5, a6, a7, a8⟩ := h
  have h6 : p.box.length * 40000000 ≤ 60 * 40000000 := Nat.mul_le_mul_right _ a4
  have h7 : p.wat.length * 10 ≤ 1000 * 10 := Nat.mul_le_mul_right _ a7
  have h8 : p.lnk.length * 10 ≤ 1000 * 10 := Nat.mul_le_mul_right _ a8
  have hr := hs.ref
  unfold inI at hr
  have u1 := uv_len64 (n := p.ref.toNat) (by omega)
  have u2 := uv_len64 (n := p.box.length) (by omega)
  have u3 := uv_len64 (n := p.wat.length) (by omega)
  have u4 := uv_len64 (n := p.lnk.length) (by omega)
  have u5 := uv_len64 (zz_lt hs.ticks)
  simp only [Par.bytes, List.length_append]
  omega
set_option maxRecDepth 100000 in
set_option maxHeartbeats 4000000 in
theorem appendParcel_ag (p : Par) (hs : p.Small) (h : p.Right) (v : Value) (b : List UInt8) (hb : b.length + p.bytes.length ≤ 1099511627776) :
    AG Try.prog 106 [.own 0 v, .c p.t] [.row v 5 1 b.length (byts b)] (Grew 5 (b ++ p.bytes)) := by
  have hsr := Sav.right h.sav
  obtain ⟨rf, sv, bx, tk, wt, lk⟩ := p
  obtain ⟨a1, a2, a3, a4, a5, a6, a7, a8⟩ := h
  obtain ⟨b1, b2, b3, b4, b5, b6⟩ := hs
  dsimp only at hsr a1 a2 a3 a4 a5 a6 a7 a8 b1 b2 b3 b4 b5 b6
  have hrf := b3
  unfold inI at hrf
  obtain ⟨rf, rfl⟩ := nat_of (show 0 ≤ rf by omega)
  have e0 : (Par.mk rf sv bx tk wt lk).bytes = uv rf ++ (sv.bytes ++ (uv bx.length ++ (bx.flatMap Lt.bytes ++ (uv (zz tk) ++ (uv wt.length ++ (wt.flatMap nb ++ (uv lk.length ++ lk.flatMap nb))))))) := rfl
  rw [e0] at hb ⊢
  simp only [List.length_append] at hb
  have c1 := nat_ag v b rf (by omega) (by omega)
  have c2 := fun v2 => appendSaved_ag sv (fun v hv => (b1.state v hv).1) (fun x hx => (b1.inp x hx).1) hsr.states hsr.inps v2 (b ++ uv rf) (by simp only [List.length_append, List.length_cons, List.length_nil, sz_len]; omega)
  have c3 := fun v3 => listL_ag 87 Lt.bytes bx (fun x hx v b hb => appendLetter_ag' (a3 x hx) (b2 x hx).1 v b hb) v3 (b ++ uv rf ++ sv.bytes) (by omega) (by simp only [List.length_append, List.length_cons, List.length_nil, sz_len]; omega)
  have c4 := fun v4 => int_ag v4 (b ++ uv rf ++ sv.bytes ++ (uv bx.length ++ bx.flatMap Lt.bytes)) tk b4 (by simp only [List.length_append, List.length_cons, List.length_nil, sz_len]; omega)
  have c5 := fun v5 => listN_ag 169 nb wt (fun x hx v b hb => natI_ag (a5 x hx) (b5 x hx) v b hb) v5 (b ++ uv rf ++ sv.bytes ++ (uv bx.length ++ bx.flatMap Lt.bytes) ++ uv (zz tk)) (by omega) (by simp only [List.length_append, List.length_cons, List.length_nil, sz_len]; omega)
  have c6 := fun v6 => listN_ag 169 nb lk (fun x hx v b hb => natI_ag (a6 x hx) (b6 x hx) v b hb) v6 (b ++ uv rf ++ sv.bytes ++ (uv bx.length ++ bx.flatMap Lt.bytes) ++ uv (zz tk) ++ (uv wt.length ++ wt.flatMap nb)) (by omega) (by simp only [List.length_append, List.length_cons, List.length_nil, sz_len]; omega)
  obtain ⟨ac, st, ip⟩ := sv
  refine ag_enter 1 tok Try.func106 Try.ntmps106 Try.results106 rfl (by kernel_rfl) rfl fun F => ?_
  repeat (first | refine gG ?_ | refine zBf ?_)
  refine ac_draw [0, 0, 0, 2, 0, 0, 2, 0, 0, 2, 0] [0, 1, 2, 4, 5, 7, 8, 3, 6, 9, 10] (by kernel_rfl) (by kernel_rfl) ?_
  refine gW ?_
  apply w_l; (focus exact rfl); (focus exact rfl); (refine zCallG [0] c1 ?_; rintro _ _ ⟨v', rfl, rfl⟩; refine ⟨.own 0 v', _, re_own, rfl, rfl, ?_⟩)
  apply w_l; (focus exact rfl); (focus exact rfl); (refine zCallG [0] (c2 _) ?_; rintro _ _ ⟨v', rfl, rfl⟩; refine ⟨.own 0 v', _, re_own, rfl, rfl, ?_⟩)
  apply w_l; (focus exact rfl); (focus exact rfl); (refine zCallG [0] (c3 _) ?_; rintro _ _ ⟨v', rfl, rfl⟩; refine ⟨.own 0 v', _, re_own, rfl, rfl, ?_⟩)
  refine gW ?_
  refine w_nil ?_
  repeat (first | refine gG ?_ | refine zBx (fun _ => ?_))
  refine ac_draw [0, 0, 0, 2, 0, 0, 2, 0, 0, 2, 0] [0, 1, 2, 4, 5, 7, 8, 3, 6, 9, 10] (by kernel_rfl) (by kernel_rfl) ?_
  refine gW ?_
  apply w_l; (focus exact rfl); (focus exact rfl); (refine zCallG [0] (c4 _) ?_; rintro _ _ ⟨v', rfl, rfl⟩; refine ⟨.own 0 v', _, re_own, rfl, rfl, ?_⟩)
  apply w_l; (focus exact rfl); (focus exact rfl); (refine zCallG [0] (c5 _) ?_; rintro _ _ ⟨v', rfl, rfl⟩; refine ⟨.own 0 v', _, re_own, rfl, rfl, ?_⟩)
  apply w_l; (focus exact rfl); (focus exact rfl); (refine zCallG [0] (c6 _) ?_; rintro _ _ ⟨v', rfl, rfl⟩; refine ⟨.own 0 v', _, re_own, rfl, rfl, ?_⟩)
  refine gW ?_
  refine w_nil ?_
  repeat (first | refine gG ?_ | refine zBx (fun _ => ?_))
  refine zG ?_
  exact ⟨_, rfl, by simp only [List.append_assoc]⟩
set_option maxRecDepth 100000 in
set_option maxHeartbeats 4000000 in
theorem parcelW_af (p : Par) (hs : p.Small) : AF Try.prog 42 [p.t] (Outs2 p.out p.check) := by
  have hw : AF Try.prog 105 [p.t, .fn (.func 44) [], .fn (.func 106) []] (Outs2 p.out p.check) := by
    have hc := checkParcel_af p
    unfold Par.out
    by_cases hyes : p.check = 0
    · rw [if_pos hyes]
      have hR := Par.right hyes
      have hbl := Par.bytes_le hs hR
      have ha := ag_nil (Nat.succ_pos 0) (appendParcel_ag p hs hR (.slice none 0 0) [] (by simp only [List.length_nil]; omega))
      rw [List.nil_append] at ha
      obtain ⟨rf, ⟨ac, st, ip⟩, bx, tk, wt, lk⟩ := p
      generalize (Par.mk rf ⟨ac, st, ip⟩ bx tk wt lk).bytes = o at *
      rw [hyes] at hc ⊢
      refine af_enter tok Try.func105 Try.ntmps105 Try.results105 rfl (by kernel_rfl) rfl rfl fun F hX => ?_
      repeat (first | refine gG ?_ | refine zBf ?_)
      refine zCallc (hc) ?_
      rintro _ rfl
      repeat (first | refine gG ?_ | refine zBx (fun _ => ?_))
      refine zCallGc [] ha ?_
      rintro _ _ ⟨v', rfl, rfl⟩
      refine ⟨.own 0 v', _, re_own, rfl, rfl, ?_⟩
      repeat (first | refine gG ?_ | refine zBx (fun _ => ?_))
      first | refine zR ?_ | refine zQ ?_
      rfl
    · rw [if_neg hyes]
      have d1 : decide (p.check = 0) = false := decide_eq_false hyes
      generalize p.check = e at *
      obtain ⟨rf, ⟨ac, st, ip⟩, bx, tk, wt, lk⟩ := p
      refine af_enter tok Try.func105 Try.ntmps105 Try.results105 rfl (by kernel_rfl) rfl rfl fun F hX => ?_
      repeat (first | refine gG ?_ | refine zBf ?_)
      refine zCallc (hc) ?_
      rintro _ rfl
      repeat (first | refine gG ?_ | refine zBx (fun _ => ?_))
      first | refine zR (ts := [bytRow [], .lit (.int .i64 e)]) ?_ | refine zQ (ts := [bytRow [], .lit (.int .i64 e)]) ?_
      rfl
  generalize p.out = o at *
  generalize p.check = e at *
  obtain ⟨rf, ⟨ac, st, ip⟩, bx, tk, wt, lk⟩ := p
  refine af_enter tok Try.func42 Try.ntmps42 Try.results42 rfl (by kernel_rfl) rfl rfl fun F hX => ?_
  repeat (first | refine gG ?_ | refine zBf ?_)
  refine zCall (hw) ?_
  rintro _ rfl
  repeat (first | refine gG ?_ | refine zBx (fun _ => ?_))
  first | refine zR ?_ | refine zQ ?_
  rfl
end Go.Proofs.Ythgackidonocpaa
namespace Go.Proofs.Ythgackidonocpaa
open Go.RowKit
section
variable {P : Program} {F : Frm} {d : Option Tmp} {ty : TypeId} {pos : String} {aft : Array Edge} {g : Option (Nat × Bool)} {ρ : Operand → AV} {hp : List Blk} {K : AV → List Blk → Prop}
theorem zMin {x y : Operand} {t t' : TypeId} {k k' : IntKind} {a b : Int} (h : K (.c (.lit (.int k (min a b)))) hp) (hx : ρ x = .c (.lit (.int k a)) := by exact rfl) (hy : ρ y = .c (.lit (.int k' b)) := by exact rfl) : LO P F ⟨d, .call { callee := .builtin .min, args := #[x, y], argTypes := #[t, t'] }, ty, pos, aft, g⟩ ρ hp K := by
  refine LO.same (fun M e w he hh => ?_) h
  have h1 := he x (by simp [Op.operands, Call.operands])
  have h2 := he y (by simp [Op.operands, Call.operands])
  rw [hx] at h1
  rw [hy] at h2
  simp only [RA, RT] at h1 h2
  refine ⟨.int k (min a b), ?_, by simp only [RA, RT]⟩
  simp [execOp, resolve, invoke, builtin, h1, h2, Go.Lib.run_min_ints]
end
end Go.Proofs.Ythgackidonocpaa
namespace Go.Proofs.Ythgackidonocpaa
open Go.RowKit
theorem minl_low : ∀ (l : List Int) (a : Int), decide (l.foldl min a < 1) = (low1 a || l.any low1)
  | [], a => by rw [List.any_nil, Bool.or_false]; rfl
  | b :: l, a => by
    rw [List.foldl_cons, minl_low l (min a b), List.any_cons]
    have : low1 (min a b) = (low1 a || low1 b) := by
      simp only [low1]
      by_cases h1 : a < 1
      · rw [decide_eq_true h1, Bool.true_or]; exact decide_eq_true (by omega)
      · by_cases h2 : b < 1
        · rw [decide_eq_true h2, Bool.or_true]; exact decide_eq_true (by omega)
        · rw [decide_eq_false h1, decide_eq_false h2]; exact decide_eq_false (by omega)
    rw [this, Bool.or_assoc]
theorem foldl_snoc {l : List Int} {k : Nat} {a b : Int} (h : l[k]? = some b) : (l.take (k + 1)).foldl min a = min ((l.take k).foldl min a) b := by
  obtain ⟨h1, rfl⟩ := List.getElem?_eq_some_iff.1 h
  rw [List.take_succ_eq_append_getElem h1, List.foldl_append]
  rfl
set_option maxRecDepth 100000 in
set_option maxHeartbeats 4000000 in
theorem min_af (a : Int) (l : List Int) : AF Try.prog 109 [intRow (a :: l)] (· = .lit (.int .i64 (l.foldl min a))) := by
  have hll : (a :: l).length = l.length + 1 := rfl
  have d0 : decide (((a :: l).length : Int) < 1) = false := decide_eq_false (by simp only [List.length_cons]; omega)
  refine af_enter tok Try.func109 Try.ntmps109 Try.results109 rfl (by kernel_rfl) rfl rfl fun F hX => ?_
  repeat (first | refine gG ?_ | refine zN1 (fun hlen => ?_) | refine zN2 (fun hlen => ?_))
  refine zIx 0 (Nat.succ_pos _) ?_
  repeat (first | refine gG ?_ | refine zN1 (fun hlen => ?_) | refine zN2 (fun hlen => ?_))
  refine x_loop [3, 4, 12, 13, 14, 15, 16, 17, 18, 19, 20, 21, 22, 23] (fun k : Nat => [(4, .c (.lit (.int .i64 ((k + 1 : Nat) : Int)))), (3, .c (.lit (.int .i64 ((l.take k).foldl min a))))]) (fun _ => []) (fun k => k ≤ l.length) (fun k => l.length - k) 0 (Nat.zero_le _) ⟨rfl, rfl, trivial⟩ rfl ?_
  intro k hk
  repeat (first | refine gG ?_ | refine zN1 (fun hlen => ?_) | refine zN2 (fun hlen => ?_))
  refine x_cond rfl (fun h => ?_) (fun h => ?_)
  · have hk' : k < l.length := by have := of_decide_eq_true h; simp only [List.length_cons] at this; omega
    obtain ⟨b, hb⟩ := nth hk'
    have hb' : (a :: l)[k + 1]? = some b := by simpa using hb
    repeat (first | refine gG ?_ | refine zN1 (fun hlen => ?_) | refine zN2 (fun hlen => ?_))
    refine zIx (k + 1) (show k + 1 < (a :: l).length by simp only [List.length_cons]; omega) ?_
    repeat (first | refine gG ?_ | refine zN1 (fun hlen => ?_) | refine zN2 (fun hlen => ?_))
    refine zEl1 (int_at hb') ?_
    repeat (first | refine gG ?_ | refine zN1 (fun hlen => ?_) | refine zN2 (fun hlen => ?_))
    refine zMin ?_
    repeat (first | refine gG ?_ | refine zN1 (fun hlen => ?_) | refine zN2 (fun hlen => ?_))
    exact ⟨k + 1, hk', by omega, x_wkd 0 ⟨rfl, by rw [foldl_snoc hb]; rfl, trivial⟩ rfl (by repeat (first | exact ag_refl | refine ag_upd rfl ?_ | refine ag_at rfl rfl ?_))⟩
  · have hk' : k = l.length := by have := of_decide_eq_false h; simp only [List.length_cons] at this; omega
    subst hk'
    rw [List.take_length]
    repeat (first | refine gG ?_ | refine zN1 (fun hlen => ?_) | refine zN2 (fun hlen => ?_))
    first | refine zR ?_ | refine zQ ?_
    rfl
set_option maxRecDepth 100000 in
set_option maxHeartbeats 4000000 in
theorem parcelFault_af (p : Par) (hsm : p.Small) : AF Try.prog 45 [p.t] (· = .lit (.int .i64 p.check)) := by
  have k3 := @Par.check_3 p
  have k2 := @Par.check_2 p
  have ks := @Par.check_s p
  have kb := @Par.check_b p
  have kl := @Par.check_l p
  have hs := savedFault_af p.sav (fun v hv => (hsm.sav.state v hv).2.1) (fun x hx => (hsm.sav.inp x hx).2.1)
  obtain ⟨rf, sv, bx, tk, wt, lk⟩ := p
  have hbm := hsm.box
  dsimp only at k3 k2 ks kb kl hs hbm
  generalize (Par.mk rf sv bx tk wt lk).check = ck at *
  generalize sv.check = cs at *
  obtain ⟨ac, st, ip⟩ := sv
  refine af_enter tok Try.func45 Try.ntmps45 Try.results45 rfl (by kernel_rfl) rfl rfl fun F hX => ?_
  cases d1 : decide (rf < 1)
  rotate_left
  · repeat (first | refine gG ?_ | refine zN1 (fun hlen => ?_) | refine zN2 (fun hlen => ?_) | refine zAl (fun _ => ?_) | refine zBf ?_)
    first | refine zR ?_ | refine zQ ?_
    rw [k3 (by rw [d1]; rfl)]; rfl
  cases d2 : decide (tk < -1)
  rotate_left
  · repeat (first | refine gG ?_ | refine zN1 (fun hlen => ?_) | refine zN2 (fun hlen => ?_) | refine zAl (fun _ => ?_) | refine zBf ?_)
    first | refine zR ?_ | refine zQ ?_
    rw [k3 (by rw [d1, d2]; rfl)]; rfl
  have j1 : (decide (rf < 1) || decide (tk < -1)) = false := by rw [d1, d2]; rfl
  cases d3 : decide ((60 : Int) < (bx.length : Int))
  rotate_left
  · repeat (first | refine gG ?_ | refine zN1 (fun hlen => ?_) | refine zN2 (fun hlen => ?_) | refine zAl (fun _ => ?_) | refine zBf ?_)
    first | refine zR ?_ | refine zQ ?_
    rw [k2 j1 (by rw [d3]; rfl)]; rfl
  cases d4 : decide ((1000 : Int) < (wt.length : Int))
  rotate_left
  · repeat (first | refine gG ?_ | refine zN1 (fun hlen => ?_) | refine zN2 (fun hlen => ?_) | refine zAl (fun _ => ?_) | refine zBf ?_)
    first | refine zR ?_ | refine zQ ?_
    rw [k2 j1 (by rw [d3, d4]; rfl)]; rfl
  cases d5 : decide ((1000 : Int) < (lk.length : Int))
  rotate_left
  · repeat (first | refine gG ?_ | refine zN1 (fun hlen => ?_) | refine zN2 (fun hlen => ?_) | refine zAl (fun _ => ?_) | refine zBf ?_)
    first | refine zR ?_ | refine zQ ?_
    rw [k2 j1 (by rw [d3, d4, d5]; rfl)]; rfl
  have j2 : (decide ((60 : Int) < (bx.length : Int)) || decide ((1000 : Int) < (wt.length : Int)) || decide ((1000 : Int) < (lk.length : Int))) = false := by rw [d3, d4, d5]; rfl
  have ks := ks j1 j2
  have kb := kb j1 j2
  have kl := kl j1 j2
  clear k3 k2 j1 j2
  repeat (first | refine gG ?_ | refine zN1 (fun hlen => ?_) | refine zN2 (fun hlen => ?_) | refine zAl (fun _ => ?_) | refine zBf ?_)
  refine zCall (hs) ?_
  rintro _ rfl
  cases c1 : decide (cs = 0)
  · repeat (first | refine gG ?_ | refine zN1 (fun hlen => ?_) | refine zN2 (fun hlen => ?_) | refine zAl (fun _ => ?_) | refine zBx (fun _ => ?_))
    first | refine zR ?_ | refine zQ ?_
    rw [ks (of_decide_eq_false c1)]; rfl
  have hs0 := of_decide_eq_true c1
  repeat (first | refine gG ?_ | refine zN1 (fun hlen => ?_) | refine zN2 (fun hlen => ?_) | refine zAl (fun _ => ?_) | refine zBx (fun _ => ?_))
  refine x_loop [2, 5, 6, 40, 41, 42, 43, 44, 45, 46, 47, 48, 49] (fun k : Nat => [(40, .c (.lit (.int .i64 k)))]) (fun _ => []) (fun k => k ≤ bx.length ∧ ∀ x ∈ bx.take k, Lt.check x = 0) (fun k => bx.length - k) 0 ⟨Nat.zero_le _, by simp⟩ ⟨rfl, trivial⟩ rfl ?_
  rintro k ⟨hk, hz⟩
  repeat (first | refine gG ?_ | refine zN1 (fun hlen => ?_) | refine zN2 (fun hlen => ?_) | refine zAl (fun _ => ?_) | refine zBx (fun _ => ?_))
  refine x_cond rfl (fun h => ?_) (fun h => ?_)
  · have hk' : k < bx.length := by simpa using h
    obtain ⟨a, ha⟩ := nth hk'
    have hs : AF Try.prog 29 [a.t] (· = .lit (.int .i64 a.check)) := (by have h := letterFault_af a (hbm a (List.mem_of_getElem? ha)).2.1; rw [Lt.fault_eq] at h; exact h)
    have he := errs_at Lt.check hz ha
    have hsn := take_snoc (p := fun x => Lt.check x = 0) ha hz
    repeat (first | refine gG ?_ | refine zN1 (fun hlen => ?_) | refine zN2 (fun hlen => ?_) | refine zAl (fun _ => ?_) | refine zBx (fun _ => ?_))
    refine zIx (k) (hk') ?_
    repeat (first | refine gG ?_ | refine zN1 (fun hlen => ?_) | refine zN2 (fun hlen => ?_) | refine zAl (fun _ => ?_) | refine zBx (fun _ => ?_))
    refine zEl (flat_at Lt.ts 9 Lt.ts_len ha) (Lt.ts_len a) ?_
    generalize hca : a.check = ca at *
    obtain ⟨ka, fa, ta, na, sa, ⟨kv, nv, tv, lv⟩⟩ := a
    repeat (first | refine gG ?_ | refine zN1 (fun hlen => ?_) | refine zN2 (fun hlen => ?_) | refine zAl (fun _ => ?_) | refine zBx (fun _ => ?_))
    refine zCall (hs) ?_
    rintro _ rfl
    cases c2 : decide (ca = 0)
    · have c0 : ¬ ca = 0 := of_decide_eq_false c2
      repeat (first | refine gG ?_ | refine zN1 (fun hlen => ?_) | refine zN2 (fun hlen => ?_) | refine zAl (fun _ => ?_) | refine zBx (fun _ => ?_))
      first | refine zR ?_ | refine zQ ?_
      rw [kb hs0 (by rw [he c0]; exact c0), he c0]; rfl
    · have c0 : ca = 0 := of_decide_eq_true c2
      repeat (first | refine gG ?_ | refine zN1 (fun hlen => ?_) | refine zN2 (fun hlen => ?_) | refine zAl (fun _ => ?_) | refine zBx (fun _ => ?_))
      exact ⟨k + 1, ⟨hk', hsn c0⟩, by omega, x_wkd 0 ⟨rfl, trivial⟩ rfl (by repeat (first | exact ag_refl | refine ag_upd rfl ?_ | refine ag_at rfl rfl ?_))⟩
  · have hk' : k = bx.length := by have : ¬ k < bx.length := by simpa using h
                                   omega
    subst hk'
    rw [List.take_length] at hz
    have kl := kl hs0 (errs_all Lt.check hz)
    rcases wt with _ | ⟨w0, wr⟩
    · have e1 : decide ((0 : Int) < (([] : List Int).length : Int)) = false := rfl
      rcases lk with _ | ⟨l0, lr⟩
      · have e2 : decide ((0 : Int) < (([] : List Int).length : Int)) = false := rfl
        repeat (first | refine gG ?_ | refine zN1 (fun hlen => ?_) | refine zN2 (fun hlen => ?_) | refine zAl (fun _ => ?_) | refine zBx (fun _ => ?_))
        first | refine zR ?_ | refine zQ ?_
        rw [kl, if_neg (by decide)]; rfl
      · have e2 : decide ((0 : Int) < ((l0 :: lr).length : Int)) = true := decide_eq_true (by simp only [List.length_cons]; omega)
        have hm2 := min_af l0 lr
        have hl2 := minl_low lr l0
        generalize lr.foldl min l0 = m2 at *
        have hl2 : decide (m2 < 1) = (l0 :: lr).any low1 := by rw [hl2, List.any_cons]
        cases f2 : decide (m2 < 1)
        · have f2x := f2
          rw [hl2] at f2x
          repeat (first | refine gG ?_ | refine zN1 (fun hlen => ?_) | refine zN2 (fun hlen => ?_) | refine zAl (fun _ => ?_) | refine zBx (fun _ => ?_))
          refine zCall (hm2) ?_
          rintro _ rfl
          repeat (first | refine gG ?_ | refine zN1 (fun hlen => ?_) | refine zN2 (fun hlen => ?_) | refine zAl (fun _ => ?_) | refine zBx (fun _ => ?_))
          first | refine zR ?_ | refine zQ ?_
          rw [kl, if_neg (by rw [f2x]; decide)]; rfl
        · have f2x := f2
          rw [hl2] at f2x
          repeat (first | refine gG ?_ | refine zN1 (fun hlen => ?_) | refine zN2 (fun hlen => ?_) | refine zAl (fun _ => ?_) | refine zBx (fun _ => ?_))
          refine zCall (hm2) ?_
          rintro _ rfl
          repeat (first | refine gG ?_ | refine zN1 (fun hlen => ?_) | refine zN2 (fun hlen => ?_) | refine zAl (fun _ => ?_) | refine zBx (fun _ => ?_))
          first | refine zR ?_ | refine zQ ?_
          rw [kl, if_pos (by rw [f2x]; rfl)]; rfl
    · have e1 : decide ((0 : Int) < ((w0 :: wr).length : Int)) = true := decide_eq_true (by simp only [List.length_cons]; omega)
      have hm1 := min_af w0 wr
      have hl1 := minl_low wr w0
      generalize wr.foldl min w0 = m1 at *
      have hl1 : decide (m1 < 1) = (w0 :: wr).any low1 := by rw [hl1, List.any_cons]
      cases f1 : decide (m1 < 1)
      rotate_left
      · have f1x := f1
        rw [hl1] at f1x
        repeat (first | refine gG ?_ | refine zN1 (fun hlen => ?_) | refine zN2 (fun hlen => ?_) | refine zAl (fun _ => ?_) | refine zBx (fun _ => ?_))
        refine zCall (hm1) ?_
        rintro _ rfl
        repeat (first | refine gG ?_ | refine zN1 (fun hlen => ?_) | refine zN2 (fun hlen => ?_) | refine zAl (fun _ => ?_) | refine zBx (fun _ => ?_))
        first | refine zR ?_ | refine zQ ?_
        rw [kl, if_pos (by rw [f1x]; rfl)]; rfl
      have f1x := f1
      rw [hl1] at f1x
      rcases lk with _ | ⟨l0, lr⟩
      · have e2 : decide ((0 : Int) < (([] : List Int).length : Int)) = false := rfl
        repeat (first | refine gG ?_ | refine zN1 (fun hlen => ?_) | refine zN2 (fun hlen => ?_) | refine zAl (fun _ => ?_) | refine zBx (fun _ => ?_))
        refine zCall (hm1) ?_
        rintro _ rfl
        repeat (first | refine gG ?_ | refine zN1 (fun hlen => ?_) | refine zN2 (fun hlen => ?_) | refine zAl (fun _ => ?_) | refine zBx (fun _ => ?_))
        first | refine zR ?_ | refine zQ ?_
        rw [kl, if_neg (by rw [f1x]; decide)]; rfl
      · have e2 : decide ((0 : Int) < ((l0 :: lr).length : Int)) = true := decide_eq_true (by simp only [List.length_cons]; omega)
        have hm2 := min_af l0 lr
        have hl2 := minl_low lr l0
        generalize lr.foldl min l0 = m2 at *
        have hl2 : decide (m2 < 1) = (l0 :: lr).any low1 := by rw [hl2, List.any_cons]
        cases f2 : decide (m2 < 1)
        · have f2x := f2
          rw [hl2] at f2x
          repeat (first | refine gG ?_ | refine zN1 (fun hlen => ?_) | refine zN2 (fun hlen => ?_) | refine zAl (fun _ => ?_) | refine zBx (fun _ => ?_))
          refine zCall (hm1) ?_
          rintro _ rfl
          repeat (first | refine gG ?_ | refine zN1 (fun hlen => ?_) | refine zN2 (fun hlen => ?_) | refine zAl (fun _ => ?_) | refine zBx (fun _ => ?_))
          refine zCall (hm2) ?_
          rintro _ rfl
          repeat (first | refine gG ?_ | refine zN1 (fun hlen => ?_) | refine zN2 (fun hlen => ?_) | refine zAl (fun _ => ?_) | refine zBx (fun _ => ?_))
          first | refine zR ?_ | refine zQ ?_
          rw [kl, if_neg (by rw [f1x, f2x]; decide)]; rfl
        · have f2x := f2
          rw [hl2] at f2x
          repeat (first | refine gG ?_ | refine zN1 (fun hlen => ?_) | refine zN2 (fun hlen => ?_) | refine zAl (fun _ => ?_) | refine zBx (fun _ => ?_))
          refine zCall (hm1) ?_
          rintro _ rfl
          repeat (first | refine gG ?_ | refine zN1 (fun hlen => ?_) | refine zN2 (fun hlen => ?_) | refine zAl (fun _ => ?_) | refine zBx (fun _ => ?_))
          refine zCall (hm2) ?_
          rintro _ rfl
          repeat (first | refine gG ?_ | refine zN1 (fun hlen => ?_) | refine zN2 (fun hlen => ?_) | refine zAl (fun _ => ?_) | refine zBx (fun _ => ?_))
          first | refine zR ?_ | refine zQ ?_
          rw [kl, if_pos (by rw [f1x, f2x]; rfl)]; rfl
def encL (l : List Int) : List UInt8 := uv l.length ++ l.flatMap nb
theorem letterText_af' {x : Lt} (h : x.check = 0) (hok : x.ok) (hb : x.bytes.length ≤ 1099511627776) : AF Try.prog 88 [x.t] (· = .lit (.string (bs x.bytes))) := by
  obtain ⟨k, fm, tt, n, t, v⟩ := x
  have hR := Lt.right h
  obtain ⟨a1, a2, a3, a4, a5⟩ := hok
  unfold inI at a1 a2 a3
  obtain ⟨fm, rfl⟩ := nat_of hR.fm0
  obtain ⟨tt, rfl⟩ := nat_of hR.tt0
  obtain ⟨n, rfl⟩ := nat_of hR.n0.1
  exact letterText_af (k := k) (t := t) (fm := fm) (tt := tt) (n := n) (by omega) (by omega) (by omega) a4 hb
set_option maxRecDepth 100000 in
set_option maxHeartbeats 4000000 in
theorem parcelBytes_af (p : Par) (hs : p.Small) : AF Try.prog 43 [p.t] (Outs2 p.out p.check) := by
  have hc := parcelFault_af p hs
  unfold Par.out
  by_cases hyes : p.check = 0
  rotate_left
  · rw [if_neg hyes]
    have d1 : decide (p.check = 0) = false := decide_eq_false hyes
    generalize p.check = e at *
    obtain ⟨rf, ⟨ac, st, ip⟩, bx, tk, wt, lk⟩ := p
    refine af_enter tok Try.func43 Try.ntmps43 Try.results43 rfl (by kernel_rfl) rfl rfl fun F hX => ?_
    repeat (first | refine gG ?_ | refine zN1 (fun hlen => ?_) | refine zN2 (fun hlen => ?_) | refine zAl (fun _ => ?_) | refine zBf ?_)
    refine zCall (hc) ?_
    rintro _ rfl
    repeat (first | refine gG ?_ | refine zN1 (fun hlen => ?_) | refine zN2 (fun hlen => ?_) | refine zAl (fun _ => ?_) | refine zBx (fun _ => ?_))
    first | refine zR (ts := [bytRow [], .lit (.int .i64 e)]) ?_ | refine zQ (ts := [bytRow [], .lit (.int .i64 e)]) ?_
    rfl
  rw [if_pos hyes]
  have hR := Par.right hyes
  have hbl := Par.bytes_le hs hR
  rw [hyes] at hc ⊢
  have hsr := Sav.right hR.sav
  have hsb := Sav.bytes_le hs.sav hsr
  obtain ⟨rf, sv, bx, tk, wt, lk⟩ := p
  obtain ⟨a1, a2, a3, a4, a5, a6, a7, a8⟩ := hR
  obtain ⟨b1, b2, b3, b4, b5, b6⟩ := hs
  dsimp only at hsr hsb a1 a2 a3 a4 a5 a6 a7 a8 b1 b2 b3 b4 b5 b6
  have hrf := b3
  unfold inI at hrf
  obtain ⟨rf, rfl⟩ := nat_of (show 0 ≤ rf by omega)
  have e0 : (Par.mk rf sv bx tk wt lk).bytes = uv rf ++ sv.bytes ++ uv bx.length ++ bx.flatMap Lt.bytes ++ uv (zz tk) ++ [wt, lk].flatMap encL := by simp [Par.bytes, encL]
  rw [e0] at hbl ⊢
  simp only [List.length_append] at hbl
  have c1 := rnat_af rf (by omega)
  have c2 := savedText_af sv (fun v hv => (b1.state v hv).1) (fun x hx => ⟨(b1.inp x hx).1, (Inp.right (hsr.inp x hx)).kind.2⟩) hsr.states hsr.inps (by omega)
  have c3 := rnat_af bx.length (by omega)
  have c4 := rnum_af tk b4
  have w1 : IntKind.u64.wrap (rf : Int) = (rf : Int) := by rw [wrap_u64]; omega
  have w3 : IntKind.u64.wrap (bx.length : Int) = (bx.length : Int) := by rw [wrap_u64]; omega
  have ul1 := uv_len64 (n := bx.length) (by omega)
  generalize sv.bytes = sb at *
  obtain ⟨ac, st, ip⟩ := sv
  refine af_enter tok Try.func43 Try.ntmps43 Try.results43 rfl (by kernel_rfl) rfl rfl fun F hX => ?_
  repeat (first | refine gG ?_ | refine zN1 (fun hlen => ?_) | refine zN2 (fun hlen => ?_) | refine zAl (fun _ => ?_) | refine zBf ?_)
  refine zCall (hc) ?_
  rintro _ rfl
  repeat (first | refine gG ?_ | refine zN1 (fun hlen => ?_) | refine zN2 (fun hlen => ?_) | refine zAl (fun _ => ?_) | refine zBx (fun _ => ?_))
  refine ac_draw [1, 1, 1, 1, 1, 1, 1, 1, 1, 1, 1, 1, 1, 1, 1] [0, 1, 2, 3, 4, 5, 6, 7, 8, 9, 10, 11, 12, 13, 14] (by kernel_rfl) (by kernel_rfl) ?_
  refine gW ?_
  apply w_q; (focus exact rfl); (focus exact rfl); focus (intro _; (refine lo_conv tok rfl rfl rfl rfl w1 ?_); exact det_refl)
  apply w_q; (focus exact rfl); (focus exact rfl); focus (intro _; (refine lo_call c1 rfl (by repeat (first | exact rzs_nil | apply rzs_cons | exact rz_c | exact rz_nil rfl | apply rz_agg | exact rz_own rfl | apply rz_fn | exact rz_ptr rfl | apply rz_tup)) ?_; rintro _ rfl); exact det_refl)
  refine gW ?_
  apply w_q; (focus exact rfl); (focus exact rfl); focus (intro _; (refine lo_call c2 rfl (by repeat (first | exact rzs_nil | apply rzs_cons | exact rz_c | exact rz_nil rfl | apply rz_agg | exact rz_own rfl | apply rz_fn | exact rz_ptr rfl | apply rz_tup)) ?_; rintro _ rfl); exact det_refl)
  apply w_q; (focus exact rfl); (focus exact rfl); focus (intro _; (refine zCatb (uv rf) sb (by first | omega | (simp only [List.length_append, List.length_cons, List.length_nil, sz_len]; omega)) ?_); exact det_refl)
  refine gW ?_
  apply w_q; (focus exact rfl); (focus exact rfl); focus (intro _; (refine lo_conv tok rfl rfl rfl rfl w3 ?_); exact det_refl)
  apply w_q; (focus exact rfl); (focus exact rfl); focus (intro _; (refine lo_call c3 rfl (by repeat (first | exact rzs_nil | apply rzs_cons | exact rz_c | exact rz_nil rfl | apply rz_agg | exact rz_own rfl | apply rz_fn | exact rz_ptr rfl | apply rz_tup)) ?_; rintro _ rfl); exact det_refl)
  apply w_q; (focus exact rfl); (focus exact rfl); focus (intro _; (refine zCatb (uv rf ++ sb) (uv bx.length) (by first | omega | (simp only [List.length_append, List.length_cons, List.length_nil, sz_len]; omega)) ?_); exact det_refl)
  refine gW ?_
  refine w_nil ?_
  repeat (first | refine gG ?_ | refine zN1 (fun hlen => ?_) | refine zN2 (fun hlen => ?_) | refine zAl (fun _ => ?_) | refine zBx (fun _ => ?_))
  refine x_loop [5, 7, 34, 35, 36, 37, 38, 39, 40, 41, 42] (fun y : Nat => [(34, .c (.lit (.int .i64 (y : Nat)))), (5, .c (.lit (.string (bs (uv rf ++ sb ++ uv bx.length ++ (bx.take y).flatMap Lt.bytes)))))]) (fun _ => []) (fun y => y ≤ bx.length) (fun y => bx.length - y) 0 (Nat.zero_le _) ⟨rfl, by simp; rfl, trivial⟩ rfl ?_
  intro i hi
  repeat (first | refine gG ?_ | refine zN1 (fun hlen => ?_) | refine zN2 (fun hlen => ?_) | refine zAl (fun _ => ?_) | refine zBx (fun _ => ?_))
  refine x_cond rfl (fun h => ?_) (fun h => ?_)
  · have hi' : i < bx.length := by simpa using h
    obtain ⟨a, hla⟩ := nth hi'
    have hsn := flat_snoc' Lt.bytes hla
    have hle := flat_take_le Lt.bytes bx (i + 1)
    rw [hsn, List.length_append] at hle
    have hc := letterText_af' (a3 a (List.mem_of_getElem? hla)) (b2 a (List.mem_of_getElem? hla)).1 (by omega)
    repeat (first | refine gG ?_ | refine zN1 (fun hlen => ?_) | refine zN2 (fun hlen => ?_) | refine zAl (fun _ => ?_) | refine zBx (fun _ => ?_))
    refine zIx (i) (hi') ?_
    repeat (first | refine gG ?_ | refine zN1 (fun hlen => ?_) | refine zN2 (fun hlen => ?_) | refine zAl (fun _ => ?_) | refine zBx (fun _ => ?_))
    refine zEl (flat_at Lt.ts 9 Lt.ts_len hla) (Lt.ts_len a) ?_
    generalize a.bytes = ab at *
    obtain ⟨ka, fa, ta, na, sa, ⟨kv, nv, tv, lv⟩⟩ := a
    repeat (first | refine gG ?_ | refine zN1 (fun hlen => ?_) | refine zN2 (fun hlen => ?_) | refine zAl (fun _ => ?_) | refine zBx (fun _ => ?_))
    refine zCall (hc) ?_
    rintro _ rfl
    repeat (first | refine gG ?_ | refine zN1 (fun hlen => ?_) | refine zN2 (fun hlen => ?_) | refine zAl (fun _ => ?_) | refine zBx (fun _ => ?_))
    refine zCatb (uv rf ++ sb ++ uv bx.length ++ (bx.take i).flatMap Lt.bytes) ab (by first | omega | (simp only [List.length_append, List.length_cons, List.length_nil, sz_len]; omega)) ?_
    repeat (first | refine gG ?_ | refine zN1 (fun hlen => ?_) | refine zN2 (fun hlen => ?_) | refine zAl (fun _ => ?_) | refine zBx (fun _ => ?_))
    exact ⟨i + 1, hi', by omega, x_wkd 0 ⟨rfl, by simp only [hsn, List.append_assoc]; rfl, trivial⟩ rfl (by repeat (first | exact ag_refl | refine ag_upd rfl ?_ | refine ag_at rfl rfl ?_))⟩
  have hi' : i = bx.length := by have : ¬ i < bx.length := by simpa using h
                                 omega
  subst hi'
  rw [List.take_length]
  repeat (first | refine gG ?_ | refine zN1 (fun hlen => ?_) | refine zN2 (fun hlen => ?_) | refine zAl (fun _ => ?_) | refine zBx (fun _ => ?_))
  refine zCall (c4) ?_
  rintro _ rfl
  repeat (first | refine gG ?_ | refine zN1 (fun hlen => ?_) | refine zN2 (fun hlen => ?_) | refine zAl (fun _ => ?_) | refine zBx (fun _ => ?_))
  refine zCatb (uv rf ++ sb ++ uv bx.length ++ bx.flatMap Lt.bytes) (uv (zz tk)) (by first | omega | (simp only [List.length_append, List.length_cons, List.length_nil, sz_len]; omega)) ?_
  repeat (first | refine gG ?_ | refine zN1 (fun hlen => ?_) | refine zN2 (fun hlen => ?_) | refine zAl (fun _ => ?_) | refine zBx (fun _ => ?_))
  refine x_loop [5, 9, 11, 54, 55, 56, 57, 58, 59, 60, 61, 62, 63, 64, 65, 66, 67, 68, 69, 70, 71, 72, 73, 74, 75, 76] (fun y : Nat => [(54, .c (.lit (.int .i64 (y : Nat)))), (5, .c (.lit (.string (bs (uv rf ++ sb ++ uv bx.length ++ bx.flatMap Lt.bytes ++ uv (zz tk) ++ ([wt, lk].take y).flatMap encL)))))]) (fun _ => []) (fun y => y ≤ 2) (fun y => 2 - y) 0 (Nat.zero_le _) ⟨rfl, by simp; rfl, trivial⟩ rfl ?_
  intro i hi
  repeat (first | refine gG ?_ | refine zN1 (fun hlen => ?_) | refine zN2 (fun hlen => ?_) | refine zAl (fun _ => ?_) | refine zBx (fun _ => ?_))
  refine x_cond rfl (fun h => ?_) (fun h => ?_)
  · have hi' : i < 2 := by have := of_decide_eq_true h; omega
    obtain ⟨a, hla⟩ := nth (l := [wt, lk]) hi'
    have hsn := flat_snoc' encL hla
    have hle := flat_take_le encL [wt, lk] i
    have ham : a = wt ∨ a = lk := by have := List.mem_of_getElem? hla; simpa using this
    have hal : a.length ≤ 1000 := by rcases ham with rfl | rfl <;> assumption
    have hain : ∀ n ∈ a, inI n ∧ 1 ≤ n := by
      rcases ham with rfl | rfl
      · exact fun n hn => ⟨b5 n hn, a5 n hn⟩
      · exact fun n hn => ⟨b6 n hn, a6 n hn⟩
    clear ham
    have wa : IntKind.u64.wrap (a.length : Int) = (a.length : Int) := by rw [wrap_u64]; omega
    have ca := rnat_af a.length (by omega)
    have ula := uv_len64 (n := a.length) (by omega)
    have hfa := flat_le nb 10 (l := a) fun n hn => nb_le (hain n hn).1
    have heq : encL a = uv a.length ++ a.flatMap nb := rfl
    repeat (first | refine gG ?_ | refine zN1 (fun hlen => ?_) | refine zN2 (fun hlen => ?_) | refine zAl (fun _ => ?_) | refine zBx (fun _ => ?_))
    refine zIx i hi' ?_
    repeat (first | refine gG ?_ | refine zN1 (fun hlen => ?_) | refine zN2 (fun hlen => ?_) | refine zAl (fun _ => ?_) | refine zBx (fun _ => ?_))
    refine zEl1 (map_at intRow hla) ?_
    repeat (first | refine gG ?_ | refine zN1 (fun hlen => ?_) | refine zN2 (fun hlen => ?_) | refine zAl (fun _ => ?_) | refine zBx (fun _ => ?_))
    refine lo_conv tok rfl rfl rfl rfl wa ?_
    repeat (first | refine gG ?_ | refine zN1 (fun hlen => ?_) | refine zN2 (fun hlen => ?_) | refine zAl (fun _ => ?_) | refine zBx (fun _ => ?_))
    refine zCall (ca) ?_
    rintro _ rfl
    repeat (first | refine gG ?_ | refine zN1 (fun hlen => ?_) | refine zN2 (fun hlen => ?_) | refine zAl (fun _ => ?_) | refine zBx (fun _ => ?_))
    refine zCatb (uv rf ++ sb ++ uv bx.length ++ bx.flatMap Lt.bytes ++ uv (zz tk) ++ ([wt, lk].take i).flatMap encL) (uv a.length) (by first | omega | (simp only [List.length_append, List.length_cons, List.length_nil, sz_len]; omega)) ?_
    repeat (first | refine gG ?_ | refine zN1 (fun hlen => ?_) | refine zN2 (fun hlen => ?_) | refine zAl (fun _ => ?_) | refine zBx (fun _ => ?_))
    refine x_loop [5, 11, 66, 67, 68, 69, 70, 71, 72, 73, 74, 75] (fun y : Nat => [(66, .c (.lit (.int .i64 (y : Nat)))), (5, .c (.lit (.string (bs (uv rf ++ sb ++ uv bx.length ++ bx.flatMap Lt.bytes ++ uv (zz tk) ++ ([wt, lk].take i).flatMap encL ++ uv a.length ++ (a.take y).flatMap nb)))))]) (fun _ => []) (fun y => y ≤ a.length) (fun y => a.length - y) 0 (Nat.zero_le _) ⟨rfl, by simp; rfl, trivial⟩ rfl ?_
    intro j hj
    repeat (first | refine gG ?_ | refine zN1 (fun hlen => ?_) | refine zN2 (fun hlen => ?_) | refine zAl (fun _ => ?_) | refine zBx (fun _ => ?_))
    refine x_cond rfl (fun h => ?_) (fun h => ?_)
    · have hj' : j < a.length := by simpa using h
      obtain ⟨n, hn⟩ := nth hj'
      obtain ⟨hn1, hn2⟩ := hain n (List.mem_of_getElem? hn)
      have hsn3 := flat_snoc' nb hn
      have hle3 := flat_take_le nb a (j + 1)
      rw [hsn3, List.length_append] at hle3
      repeat (first | refine gG ?_ | refine zN1 (fun hlen => ?_) | refine zN2 (fun hlen => ?_) | refine zAl (fun _ => ?_) | refine zBx (fun _ => ?_))
      refine zIx j hj' ?_
      repeat (first | refine gG ?_ | refine zN1 (fun hlen => ?_) | refine zN2 (fun hlen => ?_) | refine zAl (fun _ => ?_) | refine zBx (fun _ => ?_))
      refine zEl1 (int_at hn) ?_
      unfold inI at hn1
      obtain ⟨m, rfl⟩ := nat_of (show 0 ≤ n by omega)
      have wn : IntKind.u64.wrap (m : Int) = (m : Int) := by rw [wrap_u64]; omega
      have cn := rnat_af m (by omega)
      have hnb : nb (m : Int) = uv m := rfl
      rw [hnb] at hsn3 hle3
      repeat (first | refine gG ?_ | refine zN1 (fun hlen => ?_) | refine zN2 (fun hlen => ?_) | refine zAl (fun _ => ?_) | refine zBx (fun _ => ?_))
      refine lo_conv tok rfl rfl rfl rfl wn ?_
      repeat (first | refine gG ?_ | refine zN1 (fun hlen => ?_) | refine zN2 (fun hlen => ?_) | refine zAl (fun _ => ?_) | refine zBx (fun _ => ?_))
      refine zCall (cn) ?_
      rintro _ rfl
      repeat (first | refine gG ?_ | refine zN1 (fun hlen => ?_) | refine zN2 (fun hlen => ?_) | refine zAl (fun _ => ?_) | refine zBx (fun _ => ?_))
      refine zCatb (uv rf ++ sb ++ uv bx.length ++ bx.flatMap Lt.bytes ++ uv (zz tk) ++ ([wt, lk].take i).flatMap encL ++ uv a.length ++ (a.take j).flatMap nb) (uv m) (by first | omega | (simp only [List.length_append, List.length_cons, List.length_nil, sz_len]; omega)) ?_
      repeat (first | refine gG ?_ | refine zN1 (fun hlen => ?_) | refine zN2 (fun hlen => ?_) | refine zAl (fun _ => ?_) | refine zBx (fun _ => ?_))
      exact ⟨j + 1, hj', by omega, x_wkd 0 ⟨rfl, by simp only [hsn3, List.append_assoc]; rfl, trivial⟩ rfl (by repeat (first | exact ag_refl | refine ag_upd rfl ?_ | refine ag_at rfl rfl ?_))⟩
    · have hj' : j = a.length := by have : ¬ j < a.length := by simpa using h
                                    omega
      subst hj'
      rw [List.take_length]
      repeat (first | refine gG ?_ | refine zN1 (fun hlen => ?_) | refine zN2 (fun hlen => ?_) | refine zAl (fun _ => ?_) | refine zBx (fun _ => ?_))
      exact ⟨i + 1, hi', by omega, x_wkd 0 ⟨rfl, by simp only [hsn, heq, List.append_assoc]; rfl, trivial⟩ rfl (by repeat (first | exact ag_refl | refine ag_upd rfl ?_ | refine ag_at rfl rfl ?_))⟩
  have hi' : i = 2 := by have := of_decide_eq_false h; omega
  subst hi'
  repeat (first | refine gG ?_ | refine zN1 (fun hlen => ?_) | refine zN2 (fun hlen => ?_) | refine zAl (fun _ => ?_) | refine zBx (fun _ => ?_))
  refine zByt (s := bs (uv rf ++ sb ++ uv bx.length ++ bx.flatMap Lt.bytes ++ uv (zz tk) ++ [wt, lk].flatMap encL)) (by rw [bs_size']; simp only [maxLen, List.length_append]; omega) ?_
  repeat (first | refine gG ?_ | refine zN1 (fun hlen => ?_) | refine zN2 (fun hlen => ?_) | refine zAl (fun _ => ?_) | refine zBx (fun _ => ?_))
  first | refine zR ?_ | refine zQ ?_
  rfl
end Go.Proofs.Ythgackidonocpaa
namespace Go.Proofs.Ythgackidonocpaa
open Go.RowKit
def rLetG (g : RS → V × RS) (s : RS) : Lt × RS := if (rByte s).1 = 1 then (.mk (rByte s).1 (rNat (rByte s).2).1 (rNat (rNat (rByte s).2).2).1 (rNat (rNat (rNat (rByte s).2).2).2).1 (bs (rText (rNat (rNat (rNat (rByte s).2).2).2).2).1) (g (rText (rNat (rNat (rNat (rByte s).2).2).2).2).2).1, (g (rText (rNat (rNat (rNat (rByte s).2).2).2).2).2).2) else (.mk (rByte s).1 (rNat (rByte s).2).1 (rNat (rNat (rByte s).2).2).1 (rNat (rNat (rNat (rByte s).2).2).2).1 (bs (rText (rNat (rNat (rNat (rByte s).2).2).2).2).1) V.zero, (rText (rNat (rNat (rNat (rByte s).2).2).2).2).2)
theorem rLetG_fair {g : RS → V × RS} (hv : Fair g) : Fair (rLetG g) := by
  have hl : ∀ s, (rText (rNat (rNat (rNat (rByte s).2).2).2).2).2.l.length ≤ s.l.length := fun s => Nat.le_trans (rText_len _) (Nat.le_trans (rNat_len _) (Nat.le_trans (rNat_len _) (Nat.le_trans (rNat_len _) (rByte_len s))))
  have hd : ∀ s, (rText (rNat (rNat (rNat (rByte s).2).2).2).2).2.dep = s.dep := fun s => by rw [rText_dep, rNat_dep, rNat_dep, rNat_dep, rByte_dep]
  refine ⟨fun s => ?_, fun s h => ?_, fun s => ?_, fun s => ?_⟩
  · unfold rLetG
    split
    · exact Nat.le_trans (hv.len _) (hl s)
    · exact hl s
  · unfold rLetG at h ⊢
    split
    · rename_i hc
      rw [if_pos hc] at h
      exact (hv.dep _ h).trans (hd s)
    · exact hd s
  · unfold rLetG
    split
    · have := hv.up (rText (rNat (rNat (rNat (rByte s).2).2).2).2).2; rw [hd] at this; exact this
    · exact Nat.le_of_eq (hd s).symm
  · unfold rLetG
    split
    · have := hv.top (rText (rNat (rNat (rNat (rByte s).2).2).2).2).2; rw [hd] at this; exact this
    · dsimp only; rw [hd]; exact Nat.le_succ _
theorem rLet_fair : Fair rLet := by
  have h := rLetG_fair (rVal_fair 40)
  have e : rLet = rLetG (rVal 40) := by
    funext s
    unfold rLet rLetG
    rfl
  rw [e]; exact h
theorem rNatI_fair : Fair rNatI :=
  ⟨fun s => rNat_len s, fun s _ => rNat_dep s, fun s => Nat.le_of_eq (rNat_dep s).symm, fun s => by show (rNat s).2.dep ≤ _; rw [rNat_dep]; exact Nat.le_succ _⟩
theorem rSav_len (s : RS) : (rSav s).2.l.length ≤ s.l.length := by
  have h1 := (rSome_fair rInp_fair).len (rSome (rVal 40) (rText s).2).2
  have h2 := (rSome_fair (rVal_fair 40)).len (rText s).2
  have h3 := rText_len s
  unfold rSav
  dsimp only
  omega
theorem rSav_top (s : RS) : (rSav s).2.dep ≤ s.dep + 2 := by
  have h1 := (rSome_fair rInp_fair).top (rSome (rVal 40) (rText s).2).2
  have h2 := (rSome_fair (rVal_fair 40)).top (rText s).2
  rw [rText_dep] at h2
  unfold rSav
  dsimp only
  omega
set_option maxRecDepth 100000 in
set_option maxHeartbeats 2000000 in
theorem someL_ag (b D : Nat) (g : RS → Lt × RS) (hfg : Fair g) (f : FuncId) (hg : ∀ s : RS, s.dep = D → s.l.length ≤ 1099511627776 → AG Try.prog f [.ptr 0 b 0] [rdB b s] (Gives b (.agg (Lt.ts (g s).1)) (g s).2))
    (s : RS) (hs : s.dep = D) (hl : s.l.length ≤ 1099511627776) :
    AG Try.prog 174 [.ptr 0 b 0, .own 0 (bfn f b 0)] [rdB b s] (Gives b (letRow (rSome g s).1) (rSome g s).2) := by
  have hc := countR_ag b s
  have hcl := rCount_len s
  have hcn := rCount_le s
  have hcd := rCount_dep s
  unfold rSome
  generalize rCount s = p at *
  obtain ⟨n0, s0⟩ := p
  dsimp only at hc hcl hcn hcd ⊢
  refine ag_enter 1 tok Try.func174 Try.ntmps174 Try.results174 rfl (by kernel_rfl) rfl fun F => ?_
  repeat (first | refine gG ?_ | refine zAp (fun _ => ?_))
  refine zCallG [0] hc ?_
  rintro _ _ ⟨rfl, rfl⟩
  refine ⟨_, _, re_refl, rfl, rfl, ?_⟩
  repeat (first | refine gG ?_ | refine zAp (fun _ => ?_))
  refine x_own 5 38 9 rfl rfl rfl rfl rfl ?_
  refine x_loop [5, 6, 9, 10, 11, 12, 13, 14, 15, 16, 17, 18, 19, 20, 21, 22, 23, 24] (fun y : Nat × List Lt × Value × RS => [(6, .c (.lit (.int .i64 (y.1 : Int)))), (5, .own 1 y.2.2.1)]) (fun y => [rdB b y.2.2.2, .row y.2.2.1 38 9 y.2.1.length (y.2.1.flatMap Lt.ts)])
    (fun y => (y.2.2.2.bad = false → y.2.2.2.dep = D) ∧ (y.2.1 ++ (rLoop g y.1 y.2.2.2).1, (rLoop g y.1 y.2.2.2).2) = rLoop g n0 s0 ∧ y.2.1.length + y.1 ≤ 1099511627776 ∧ y.2.2.2.l.length ≤ 1099511627776) (fun y => y.1) (n0, [], .slice none 0 0, s0) ⟨fun _ => hcd.trans hs, by simp, by simp only [List.length_nil]; omega, by simp only; omega⟩ ⟨rfl, rfl, trivial⟩ rfl ?_
  rintro ⟨n, out, v, s'⟩ ⟨hd, hinv, hlen, hsl⟩
  dsimp only at hd hinv hlen hsl ⊢
  cases n with
  | zero =>
    have d1 : decide ((0 : Int) < ((0 : Nat) : Int)) = false := rfl
    simp only [rLoop, List.append_nil] at hinv
    refine x_fz 5 rfl rfl rfl rfl ?_
    repeat (first | refine gG ?_ | refine zAp (fun _ => ?_))
    refine zG ?_
    rw [← hinv]
    exact ⟨rfl, rfl⟩
  | succ n =>
    have d1 : decide ((0 : Int) < ((n + 1 : Nat) : Int)) = true := decide_eq_true (by omega)
    obtain ⟨l1, bad1, dp1⟩ := s'
    cases bad1
    · have hdd := hd rfl
      have hca := hg ⟨l1, false, dp1⟩ hdd hsl
      have hgl := hfg.len ⟨l1, false, dp1⟩
      have hgd := hfg.dep ⟨l1, false, dp1⟩
      simp only [rLoop, Bool.false_eq_true, if_false] at hinv
      dsimp only at hdd hgl hgd
      generalize g ⟨l1, false, dp1⟩ = q at *
      obtain ⟨⟨ka, fa, ta, na, sa, ⟨kv, nv, tv, lv⟩⟩, s2⟩ := q
      dsimp only at hinv hca hgl hgd
      repeat (first | refine gG ?_ | refine zAp (fun _ => ?_))
      refine zCallGb [0] hca ?_
      rintro _ _ ⟨rfl, rfl⟩
      refine ⟨_, _, re_refl, rfl, rfl, ?_⟩
      repeat (first | refine gG ?_ | refine zAp (fun _ => ?_))
      refine lo_sub rfl rfl (r := (n : Int)) (by rw [IntWalk.i64_in _ (by omega)]; omega) ?_
      repeat (first | refine gG ?_ | refine zAp (fun _ => ?_))
      exact ⟨(n, out ++ [⟨ka, fa, ta, na, sa, ⟨kv, nv, tv, lv⟩⟩], _, s2), ⟨fun h => (hgd h).trans hdd, by simpa using hinv, by simp only [List.length_append, List.length_cons, List.length_nil]; omega, by simp only at hsl ⊢; omega⟩, by simp only; omega, x_wkd 2 ⟨rfl, rfl, trivial⟩ (by simp only [List.flatMap_append, List.flatMap_cons, List.flatMap_nil, List.append_nil, List.length_append, List.length_cons, List.length_nil]; rfl) (by repeat (first | exact ag_refl | refine ag_upd rfl ?_ | refine ag_at rfl rfl ?_))⟩
    · simp only [rLoop, if_true, List.append_nil] at hinv
      refine x_fz 5 rfl rfl rfl rfl ?_
      repeat (first | refine gG ?_ | refine zAp (fun _ => ?_))
      refine zG ?_
      rw [← hinv]
      exact ⟨rfl, rfl⟩
set_option maxRecDepth 100000 in
set_option maxHeartbeats 2000000 in
theorem someN_ag (b D : Nat) (g : RS → Int × RS) (hfg : Fair g) (f : FuncId) (hg : ∀ s : RS, s.dep = D → s.l.length ≤ 1099511627776 → AG Try.prog f [.ptr 0 b 0] [rdB b s] (Gives b (.lit (.int .i64 (g s).1)) (g s).2))
    (s : RS) (hs : s.dep = D) (hl : s.l.length ≤ 1099511627776) :
    AG Try.prog 175 [.ptr 0 b 0, .own 0 (bfn f b 0)] [rdB b s] (Gives b (intRow (rSome g s).1) (rSome g s).2) := by
  have hc := countR_ag b s
  have hcl := rCount_len s
  have hcn := rCount_le s
  have hcd := rCount_dep s
  unfold rSome
  generalize rCount s = p at *
  obtain ⟨n0, s0⟩ := p
  dsimp only at hc hcl hcn hcd ⊢
  refine ag_enter 1 tok Try.func175 Try.ntmps175 Try.results175 rfl (by kernel_rfl) rfl fun F => ?_
  repeat (first | refine gG ?_ | refine zAp (fun _ => ?_))
  refine zCallG [0] hc ?_
  rintro _ _ ⟨rfl, rfl⟩
  refine ⟨_, _, re_refl, rfl, rfl, ?_⟩
  repeat (first | refine gG ?_ | refine zAp (fun _ => ?_))
  refine x_own 5 3 1 rfl rfl rfl rfl rfl ?_
  refine x_loop [5, 6, 9, 10, 11, 12, 13, 14, 15, 16, 17, 18, 19, 20, 21, 22, 23, 24] (fun y : Nat × List Int × Value × RS => [(6, .c (.lit (.int .i64 (y.1 : Int)))), (5, .own 1 y.2.2.1)]) (fun y => [rdB b y.2.2.2, .row y.2.2.1 3 1 y.2.1.length (y.2.1.flatMap intTs)])
    (fun y => (y.2.2.2.bad = false → y.2.2.2.dep = D) ∧ (y.2.1 ++ (rLoop g y.1 y.2.2.2).1, (rLoop g y.1 y.2.2.2).2) = rLoop g n0 s0 ∧ y.2.1.length + y.1 ≤ 1099511627776 ∧ y.2.2.2.l.length ≤ 1099511627776) (fun y => y.1) (n0, [], .slice none 0 0, s0) ⟨fun _ => hcd.trans hs, by simp, by simp only [List.length_nil]; omega, by simp only; omega⟩ ⟨rfl, rfl, trivial⟩ rfl ?_
  rintro ⟨n, out, v, s'⟩ ⟨hd, hinv, hlen, hsl⟩
  dsimp only at hd hinv hlen hsl ⊢
  cases n with
  | zero =>
    have d1 : decide ((0 : Int) < ((0 : Nat) : Int)) = false := rfl
    simp only [rLoop, List.append_nil] at hinv
    refine x_fz 5 rfl rfl rfl rfl ?_
    repeat (first | refine gG ?_ | refine zAp (fun _ => ?_))
    refine zG ?_
    rw [← hinv]
    exact ⟨rfl, rfl⟩
  | succ n =>
    have d1 : decide ((0 : Int) < ((n + 1 : Nat) : Int)) = true := decide_eq_true (by omega)
    obtain ⟨l1, bad1, dp1⟩ := s'
    cases bad1
    · have hdd := hd rfl
      have hca := hg ⟨l1, false, dp1⟩ hdd hsl
      have hgl := hfg.len ⟨l1, false, dp1⟩
      have hgd := hfg.dep ⟨l1, false, dp1⟩
      simp only [rLoop, Bool.false_eq_true, if_false] at hinv
      dsimp only at hdd hgl hgd
      generalize g ⟨l1, false, dp1⟩ = q at *
      obtain ⟨kv, s2⟩ := q
      dsimp only at hinv hca hgl hgd
      repeat (first | refine gG ?_ | refine zAp (fun _ => ?_))
      refine zCallGb [0] hca ?_
      rintro _ _ ⟨rfl, rfl⟩
      refine ⟨_, _, re_refl, rfl, rfl, ?_⟩
      repeat (first | refine gG ?_ | refine zAp (fun _ => ?_))
      refine lo_sub rfl rfl (r := (n : Int)) (by rw [IntWalk.i64_in _ (by omega)]; omega) ?_
      repeat (first | refine gG ?_ | refine zAp (fun _ => ?_))
      exact ⟨(n, out ++ [kv], _, s2), ⟨fun h => (hgd h).trans hdd, by simpa using hinv, by simp only [List.length_append, List.length_cons, List.length_nil]; omega, by simp only at hsl ⊢; omega⟩, by simp only; omega, x_wkd 2 ⟨rfl, rfl, trivial⟩ (by simp only [List.flatMap_append, List.flatMap_cons, List.flatMap_nil, List.append_nil, List.length_append, List.length_cons, List.length_nil]; rfl) (by repeat (first | exact ag_refl | refine ag_upd rfl ?_ | refine ag_at rfl rfl ?_))⟩
    · simp only [rLoop, if_true, List.append_nil] at hinv
      refine x_fz 5 rfl rfl rfl rfl ?_
      repeat (first | refine gG ?_ | refine zAp (fun _ => ?_))
      refine zG ?_
      rw [← hinv]
      exact ⟨rfl, rfl⟩
set_option maxRecDepth 100000 in
set_option maxHeartbeats 4000000 in
theorem parcelR_ag (b : Nat) (s : RS) (hd : s.dep ≤ 900) (hl : s.l.length ≤ 1099511627776) : AG Try.prog 101 [.ptr 0 b 0] [rdB b s] (Gives b (rPar s).1.t (rPar s).2) := by
  unfold rPar
  dsimp only
  have c1 := natR_ag b s
  have l1 := rNat_len s
  have p1 := rNat_dep s
  generalize rNat s = q1 at *
  obtain ⟨rf, s1⟩ := q1
  dsimp only at c1 l1 p1 ⊢
  have c2 := savedR_ag b s1 (by omega) (by omega)
  have l2 := rSav_len s1
  have p2 := rSav_top s1
  generalize rSav s1 = q2 at *
  obtain ⟨⟨ac, st, ip⟩, s2⟩ := q2
  dsimp only at c2 l2 p2 ⊢
  have c3 := someL_ag b s2.dep rLet rLet_fair 84 (fun s' h' hl' => letterR_ag b s' (by omega) hl') s2 rfl (by omega)
  have l3 := (rSome_fair rLet_fair).len s2
  have p3 := (rSome_fair rLet_fair).top s2
  generalize rSome rLet s2 = q3 at *
  obtain ⟨bx, s3⟩ := q3
  dsimp only at c3 l3 p3 ⊢
  have c4 := intR_ag b s3
  have l4 := rInt_len s3
  have p4 := rInt_dep s3
  generalize rInt s3 = q4 at *
  obtain ⟨tk, s4⟩ := q4
  dsimp only at c4 l4 p4 ⊢
  have c5 := someN_ag b s4.dep rNatI rNatI_fair 166 (fun s' h' hl' => natR_ag b s') s4 rfl (by omega)
  have l5 := (rSome_fair rNatI_fair).len s4
  have p5 := (rSome_fair rNatI_fair).top s4
  generalize rSome rNatI s4 = q5 at *
  obtain ⟨wt, s5⟩ := q5
  dsimp only at c5 l5 p5 ⊢
  have c6 := someN_ag b s5.dep rNatI rNatI_fair 166 (fun s' h' hl' => natR_ag b s') s5 rfl (by omega)
  generalize rSome rNatI s5 = q6 at *
  obtain ⟨lk, s6⟩ := q6
  dsimp only at c6 ⊢
  refine AG.re (R := fun r hs => Re r (.c (Par.mk rf ⟨ac, st, ip⟩ bx tk wt lk).t) ∧ hs = [rdB b s6]) ?_ (fun r hs h => ⟨_, h.1, rfl, h.2⟩)
  refine ag_enter 1 tok Try.func101 Try.ntmps101 Try.results101 rfl (by kernel_rfl) rfl fun F => ?_
  repeat (first | refine gG ?_ | refine zAl (fun _ => ?_))
  rename_i b2
  refine x_join [4, 5, 6, 7, 8, 9, 10, 11, 12, 13, 14, 15, 16, 17, 18, 19, 20, 3] (fun b3 : Nat => [(3, .ptr 2 b3 0)]) (fun b3 => [rdB b s4, .box b2 58 [.c (.lit (.int .i64 0)), .c (.lit (.string ⟨#[]⟩)), .c (.lit (.slice none 0 0)), .c (.lit (.slice none 0 0)), .c (.lit (.slice none 0 0)), .c (.lit (.int .i64 0)), .c (.lit (.slice none 0 0)), .c (.lit (.slice none 0 0))], .box b3 58 [.c (.lit (.int .i64 (rf : Int))), .c (.lit (.string ac)), .c (V.row st), .c (inpRow ip), .c (letRow bx), .c (.lit (.int .i64 tk)), .c (.lit (.slice none 0 0)), .c (.lit (.slice none 0 0))]]) ?_ ?_
  rotate_left
  · skip
    refine ac_drawT [0, 0, 0, 2, 0, 2, 0, 0, 0, 0, 0, 2, 0, 0, 0, 2, 0, 3, 2] (.fork [0, 1, 2, 4, 6, 7, 8, 9, 10, 12, 13, 14] 3 (.fork [] 5 (.fork [] 11 (.fork [] 15 (.fin [16, 17, 18]) 17 (.fin [15, 16, 18])) 17 (.fin [11, 15, 16, 18])) 17 (.fin [5, 11, 15, 16, 18])) 17 (.fin [3, 5, 11, 15, 16, 18])) (by kernel_rfl) (by kernel_rfl) ?_
    refine wt_fork ?_
    refine gW ?_
    apply w_p; (focus exact rfl); (focus exact rfl); focus (intro _; (refine zMf ?_); exact det_refl)
    refine gW ?_
    refine w_nil ?_
    refine ⟨?_, ?_⟩
    · apply w_l; (focus exact rfl); (focus exact rfl); (refine zCallG [0] c1 ?_; rintro _ _ ⟨rfl, rfl⟩; refine ⟨_, _, re_refl, rfl, rfl, ?_⟩)
      refine w_nil ?_
      refine wt_fork ?_
      refine w_nil ?_
      refine ⟨?_, ?_⟩
      · apply w_l; (focus exact rfl); (focus exact rfl); (refine zCallG [0] c2 ?_; rintro _ _ ⟨rfl, rfl⟩; refine ⟨_, _, re_refl, rfl, rfl, ?_⟩)
        refine w_nil ?_
        refine wt_fork ?_
        refine w_nil ?_
        refine ⟨?_, ?_⟩
        · apply w_l; (focus exact rfl); (focus exact rfl); (refine zCallG [0] c3 ?_; rintro _ _ ⟨rfl, rfl⟩; refine ⟨_, _, re_refl, rfl, rfl, ?_⟩)
          refine w_nil ?_
          refine wt_fork ?_
          refine w_nil ?_
          refine ⟨?_, ?_⟩
          · apply w_l; (focus exact rfl); (focus exact rfl); (refine zCallG [0] c4 ?_; rintro _ _ ⟨rfl, rfl⟩; refine ⟨_, _, re_refl, rfl, rfl, ?_⟩)
            refine w_nil ?_
            refine wt_fin ?_
            refine gW ?_
            apply w_a; (focus exact rfl); (focus exact rfl); refine v_alloc tok rfl rfl rfl (fun _ => rfl) (fun _ => ⟨⟨_, rfl⟩, ?_⟩)
            apply w_l; (focus exact rfl); (focus exact rfl); (first | (refine zkL ?_; first | refine zL1 ?_ | refine zL2 ?_ | refine zL3 ?_ | refine zLp ?_) | refine zM ?_ | (refine zkF ?_; first | refine zF1 ?_ | refine zF2 ?_ | refine zF3 ?_) | refine zA ?_ | (refine zkB ?_; first | refine zC5 ?_ | refine zC6 ?_ | refine zC1 ?_ | refine zC2 ?_ | refine zC3 ?_ | refine zC4 ?_ | refine zS5 ?_ | refine zS6 ?_ | refine zS1 ?_ | refine zS2 ?_ | refine zS3 ?_ | refine zS4 ?_ | refine zInc ?_ | refine zQ1 ?_ | refine zQ2 ?_ | refine zQ3 ?_ | refine zQ4 ?_ | refine zQ5 ?_ | refine zQ6 ?_) | (refine zkI ?_; first | refine zN1 (fun hlen => ?_) | refine zN2 (fun hlen => ?_) | refine zN3 ?_ | refine zN4 ?_ | refine zAp (fun _ => ?_)) | refine zS ?_ | refine zAl (fun _ => ?_) | refine zBx (fun _ => ?_) | refine zPt ?_ | refine zPf ?_ | refine zE ?_ | refine zEA ?_ | refine zNot ?_ | refine zBd ?_ | refine zBs ?_ | refine zFn ?_ | refine zK1 ?_ | refine zK2 ?_)
            refine w_nil ?_
            exact ⟨_, x_wkd 3 ⟨rfl, trivial⟩ rfl (by repeat (first | exact ag_refl | refine ag_upd rfl ?_ | refine ag_at rfl rfl ?_))⟩
          · apply w_a; (focus exact rfl); (focus exact rfl); refine v_alloc tok rfl rfl rfl (fun _ => rfl) (fun _ => ⟨⟨_, rfl⟩, ?_⟩)
            refine w_nil ?_
            refine wt_fin ?_
            apply w_l; (focus exact rfl); (focus exact rfl); (refine zCallG [0] c4 ?_; rintro _ _ ⟨rfl, rfl⟩; refine ⟨_, _, re_refl, rfl, rfl, ?_⟩)
            refine gW ?_
            apply w_l; (focus exact rfl); (focus exact rfl); (first | (refine zkL ?_; first | refine zL1 ?_ | refine zL2 ?_ | refine zL3 ?_ | refine zLp ?_) | refine zM ?_ | (refine zkF ?_; first | refine zF1 ?_ | refine zF2 ?_ | refine zF3 ?_) | refine zA ?_ | (refine zkB ?_; first | refine zC5 ?_ | refine zC6 ?_ | refine zC1 ?_ | refine zC2 ?_ | refine zC3 ?_ | refine zC4 ?_ | refine zS5 ?_ | refine zS6 ?_ | refine zS1 ?_ | refine zS2 ?_ | refine zS3 ?_ | refine zS4 ?_ | refine zInc ?_ | refine zQ1 ?_ | refine zQ2 ?_ | refine zQ3 ?_ | refine zQ4 ?_ | refine zQ5 ?_ | refine zQ6 ?_) | (refine zkI ?_; first | refine zN1 (fun hlen => ?_) | refine zN2 (fun hlen => ?_) | refine zN3 ?_ | refine zN4 ?_ | refine zAp (fun _ => ?_)) | refine zS ?_ | refine zAl (fun _ => ?_) | refine zBx (fun _ => ?_) | refine zPt ?_ | refine zPf ?_ | refine zE ?_ | refine zEA ?_ | refine zNot ?_ | refine zBd ?_ | refine zBs ?_ | refine zFn ?_ | refine zK1 ?_ | refine zK2 ?_)
            refine w_nil ?_
            exact ⟨_, x_wkd 3 ⟨rfl, trivial⟩ rfl (by repeat (first | exact ag_refl | refine ag_upd rfl ?_ | refine ag_at rfl rfl ?_))⟩
        · apply w_a; (focus exact rfl); (focus exact rfl); refine v_alloc tok rfl rfl rfl (fun _ => rfl) (fun _ => ⟨⟨_, rfl⟩, ?_⟩)
          refine w_nil ?_
          refine wt_fin ?_
          apply w_l; (focus exact rfl); (focus exact rfl); (refine zCallG [0] c3 ?_; rintro _ _ ⟨rfl, rfl⟩; refine ⟨_, _, re_refl, rfl, rfl, ?_⟩)
          apply w_l; (focus exact rfl); (focus exact rfl); (refine zCallG [0] c4 ?_; rintro _ _ ⟨rfl, rfl⟩; refine ⟨_, _, re_refl, rfl, rfl, ?_⟩)
          refine gW ?_
          apply w_l; (focus exact rfl); (focus exact rfl); (first | (refine zkL ?_; first | refine zL1 ?_ | refine zL2 ?_ | refine zL3 ?_ | refine zLp ?_) | refine zM ?_ | (refine zkF ?_; first | refine zF1 ?_ | refine zF2 ?_ | refine zF3 ?_) | refine zA ?_ | (refine zkB ?_; first | refine zC5 ?_ | refine zC6 ?_ | refine zC1 ?_ | refine zC2 ?_ | refine zC3 ?_ | refine zC4 ?_ | refine zS5 ?_ | refine zS6 ?_ | refine zS1 ?_ | refine zS2 ?_ | refine zS3 ?_ | refine zS4 ?_ | refine zInc ?_ | refine zQ1 ?_ | refine zQ2 ?_ | refine zQ3 ?_ | refine zQ4 ?_ | refine zQ5 ?_ | refine zQ6 ?_) | (refine zkI ?_; first | refine zN1 (fun hlen => ?_) | refine zN2 (fun hlen => ?_) | refine zN3 ?_ | refine zN4 ?_ | refine zAp (fun _ => ?_)) | refine zS ?_ | refine zAl (fun _ => ?_) | refine zBx (fun _ => ?_) | refine zPt ?_ | refine zPf ?_ | refine zE ?_ | refine zEA ?_ | refine zNot ?_ | refine zBd ?_ | refine zBs ?_ | refine zFn ?_ | refine zK1 ?_ | refine zK2 ?_)
          refine w_nil ?_
          exact ⟨_, x_wkd 3 ⟨rfl, trivial⟩ rfl (by repeat (first | exact ag_refl | refine ag_upd rfl ?_ | refine ag_at rfl rfl ?_))⟩
      · apply w_a; (focus exact rfl); (focus exact rfl); refine v_alloc tok rfl rfl rfl (fun _ => rfl) (fun _ => ⟨⟨_, rfl⟩, ?_⟩)
        refine w_nil ?_
        refine wt_fin ?_
        apply w_l; (focus exact rfl); (focus exact rfl); (refine zCallG [0] c2 ?_; rintro _ _ ⟨rfl, rfl⟩; refine ⟨_, _, re_refl, rfl, rfl, ?_⟩)
        apply w_l; (focus exact rfl); (focus exact rfl); (refine zCallG [0] c3 ?_; rintro _ _ ⟨rfl, rfl⟩; refine ⟨_, _, re_refl, rfl, rfl, ?_⟩)
        apply w_l; (focus exact rfl); (focus exact rfl); (refine zCallG [0] c4 ?_; rintro _ _ ⟨rfl, rfl⟩; refine ⟨_, _, re_refl, rfl, rfl, ?_⟩)
        refine gW ?_
        apply w_l; (focus exact rfl); (focus exact rfl); (first | (refine zkL ?_; first | refine zL1 ?_ | refine zL2 ?_ | refine zL3 ?_ | refine zLp ?_) | refine zM ?_ | (refine zkF ?_; first | refine zF1 ?_ | refine zF2 ?_ | refine zF3 ?_) | refine zA ?_ | (refine zkB ?_; first | refine zC5 ?_ | refine zC6 ?_ | refine zC1 ?_ | refine zC2 ?_ | refine zC3 ?_ | refine zC4 ?_ | refine zS5 ?_ | refine zS6 ?_ | refine zS1 ?_ | refine zS2 ?_ | refine zS3 ?_ | refine zS4 ?_ | refine zInc ?_ | refine zQ1 ?_ | refine zQ2 ?_ | refine zQ3 ?_ | refine zQ4 ?_ | refine zQ5 ?_ | refine zQ6 ?_) | (refine zkI ?_; first | refine zN1 (fun hlen => ?_) | refine zN2 (fun hlen => ?_) | refine zN3 ?_ | refine zN4 ?_ | refine zAp (fun _ => ?_)) | refine zS ?_ | refine zAl (fun _ => ?_) | refine zBx (fun _ => ?_) | refine zPt ?_ | refine zPf ?_ | refine zE ?_ | refine zEA ?_ | refine zNot ?_ | refine zBd ?_ | refine zBs ?_ | refine zFn ?_ | refine zK1 ?_ | refine zK2 ?_)
        refine w_nil ?_
        exact ⟨_, x_wkd 3 ⟨rfl, trivial⟩ rfl (by repeat (first | exact ag_refl | refine ag_upd rfl ?_ | refine ag_at rfl rfl ?_))⟩
    · apply w_a; (focus exact rfl); (focus exact rfl); refine v_alloc tok rfl rfl rfl (fun _ => rfl) (fun _ => ⟨⟨_, rfl⟩, ?_⟩)
      refine w_nil ?_
      refine wt_fin ?_
      apply w_l; (focus exact rfl); (focus exact rfl); (refine zCallG [0] c1 ?_; rintro _ _ ⟨rfl, rfl⟩; refine ⟨_, _, re_refl, rfl, rfl, ?_⟩)
      apply w_l; (focus exact rfl); (focus exact rfl); (refine zCallG [0] c2 ?_; rintro _ _ ⟨rfl, rfl⟩; refine ⟨_, _, re_refl, rfl, rfl, ?_⟩)
      apply w_l; (focus exact rfl); (focus exact rfl); (refine zCallG [0] c3 ?_; rintro _ _ ⟨rfl, rfl⟩; refine ⟨_, _, re_refl, rfl, rfl, ?_⟩)
      apply w_l; (focus exact rfl); (focus exact rfl); (refine zCallG [0] c4 ?_; rintro _ _ ⟨rfl, rfl⟩; refine ⟨_, _, re_refl, rfl, rfl, ?_⟩)
      refine gW ?_
      apply w_l; (focus exact rfl); (focus exact rfl); (first | (refine zkL ?_; first | refine zL1 ?_ | refine zL2 ?_ | refine zL3 ?_ | refine zLp ?_) | refine zM ?_ | (refine zkF ?_; first | refine zF1 ?_ | refine zF2 ?_ | refine zF3 ?_) | refine zA ?_ | (refine zkB ?_; first | refine zC5 ?_ | refine zC6 ?_ | refine zC1 ?_ | refine zC2 ?_ | refine zC3 ?_ | refine zC4 ?_ | refine zS5 ?_ | refine zS6 ?_ | refine zS1 ?_ | refine zS2 ?_ | refine zS3 ?_ | refine zS4 ?_ | refine zInc ?_ | refine zQ1 ?_ | refine zQ2 ?_ | refine zQ3 ?_ | refine zQ4 ?_ | refine zQ5 ?_ | refine zQ6 ?_) | (refine zkI ?_; first | refine zN1 (fun hlen => ?_) | refine zN2 (fun hlen => ?_) | refine zN3 ?_ | refine zN4 ?_ | refine zAp (fun _ => ?_)) | refine zS ?_ | refine zAl (fun _ => ?_) | refine zBx (fun _ => ?_) | refine zPt ?_ | refine zPf ?_ | refine zE ?_ | refine zEA ?_ | refine zNot ?_ | refine zBd ?_ | refine zBs ?_ | refine zFn ?_ | refine zK1 ?_ | refine zK2 ?_)
      refine w_nil ?_
      exact ⟨_, x_wkd 3 ⟨rfl, trivial⟩ rfl (by repeat (first | exact ag_refl | refine ag_upd rfl ?_ | refine ag_at rfl rfl ?_))⟩
  intro b3
  repeat (first | refine gG ?_ | refine zAl (fun _ => ?_))
  refine ac_draw [0, 0, 0, 0, 0, 0, 0, 2, 0, 2] [0, 1, 2, 3, 4, 5, 6, 7, 8, 9] (by kernel_rfl) (by kernel_rfl) ?_
  refine gW ?_
  apply w_p; (focus exact rfl); (focus exact rfl); focus (intro _; (refine zMf ?_); exact det_refl)
  apply w_l; (focus exact rfl); (focus exact rfl); (refine zCallG [0] c5 ?_; rintro _ _ ⟨rfl, rfl⟩; refine ⟨_, _, re_refl, rfl, rfl, ?_⟩)
  refine gW ?_
  apply w_l; (focus exact rfl); (focus exact rfl); (first | (refine zkL ?_; first | refine zL1 ?_ | refine zL2 ?_ | refine zL3 ?_ | refine zLp ?_) | refine zM ?_ | (refine zkF ?_; first | refine zF1 ?_ | refine zF2 ?_ | refine zF3 ?_) | refine zA ?_ | (refine zkB ?_; first | refine zC5 ?_ | refine zC6 ?_ | refine zC1 ?_ | refine zC2 ?_ | refine zC3 ?_ | refine zC4 ?_ | refine zS5 ?_ | refine zS6 ?_ | refine zS1 ?_ | refine zS2 ?_ | refine zS3 ?_ | refine zS4 ?_ | refine zInc ?_ | refine zQ1 ?_ | refine zQ2 ?_ | refine zQ3 ?_ | refine zQ4 ?_ | refine zQ5 ?_ | refine zQ6 ?_) | (refine zkI ?_; first | refine zN1 (fun hlen => ?_) | refine zN2 (fun hlen => ?_) | refine zN3 ?_ | refine zN4 ?_ | refine zAp (fun _ => ?_)) | refine zS ?_ | refine zAl (fun _ => ?_) | refine zBx (fun _ => ?_) | refine zPt ?_ | refine zPf ?_ | refine zE ?_ | refine zEA ?_ | refine zNot ?_ | refine zBd ?_ | refine zBs ?_ | refine zFn ?_ | refine zK1 ?_ | refine zK2 ?_)
  refine w_nil ?_
  repeat (first | refine gG ?_ | refine zAl (fun _ => ?_))
  refine ac_draw [0, 0, 0, 0, 0, 0, 0, 2, 0, 2] [0, 1, 2, 3, 4, 5, 6, 7, 8, 9] (by kernel_rfl) (by kernel_rfl) ?_
  refine gW ?_
  apply w_p; (focus exact rfl); (focus exact rfl); focus (intro _; (refine zMf ?_); exact det_refl)
  apply w_l; (focus exact rfl); (focus exact rfl); (refine zCallG [0] c6 ?_; rintro _ _ ⟨rfl, rfl⟩; refine ⟨_, _, re_refl, rfl, rfl, ?_⟩)
  refine gW ?_
  apply w_l; (focus exact rfl); (focus exact rfl); (first | (refine zkL ?_; first | refine zL1 ?_ | refine zL2 ?_ | refine zL3 ?_ | refine zLp ?_) | refine zM ?_ | (refine zkF ?_; first | refine zF1 ?_ | refine zF2 ?_ | refine zF3 ?_) | refine zA ?_ | (refine zkB ?_; first | refine zC5 ?_ | refine zC6 ?_ | refine zC1 ?_ | refine zC2 ?_ | refine zC3 ?_ | refine zC4 ?_ | refine zS5 ?_ | refine zS6 ?_ | refine zS1 ?_ | refine zS2 ?_ | refine zS3 ?_ | refine zS4 ?_ | refine zInc ?_ | refine zQ1 ?_ | refine zQ2 ?_ | refine zQ3 ?_ | refine zQ4 ?_ | refine zQ5 ?_ | refine zQ6 ?_) | (refine zkI ?_; first | refine zN1 (fun hlen => ?_) | refine zN2 (fun hlen => ?_) | refine zN3 ?_ | refine zN4 ?_ | refine zAp (fun _ => ?_)) | refine zS ?_ | refine zAl (fun _ => ?_) | refine zBx (fun _ => ?_) | refine zPt ?_ | refine zPf ?_ | refine zE ?_ | refine zEA ?_ | refine zNot ?_ | refine zBd ?_ | refine zBs ?_ | refine zFn ?_ | refine zK1 ?_ | refine zK2 ?_)
  refine w_nil ?_
  repeat (first | refine gG ?_ | refine zAl (fun _ => ?_))
  refine zG ?_
  exact ⟨re_cls (by repeat (first | exact rzs_nil | apply rzs_cons | exact rz_c | exact rz_nil rfl | apply rz_agg | exact rz_own rfl | apply rz_fn | exact rz_ptr rfl | apply rz_tup)), rfl⟩
def OutP (x : Par) (e : Int) (t : T) : Prop := t = .tup [x.t, .lit (.int .i64 e)]
set_option maxRecDepth 100000 in
set_option maxHeartbeats 4000000 in
theorem readParcel_af (l : List UInt8) (hl : l.length ≤ 1099511627776) : AF Try.prog 38 [bytRow l] (OutP (rdP l).1 (rdP l).2) := by
  have h1 : AF Try.prog 100 [bytRow l, .fn (.func 101) [], .fn (.func 44) []] (OutP (rdP l).1 (rdP l).2) := by
    have h1 := fun b => parcelR_ag b ⟨l, false, 0⟩ (by simp) hl
    unfold rdP
    generalize rPar ⟨l, false, 0⟩ = q at *
    obtain ⟨x, s⟩ := q
    dsimp only at h1 ⊢
    have h2 := checkParcel_af x
    generalize x.check = e at *
    obtain ⟨rf, ⟨ac, st, ip⟩, bx, tk, wt, lk⟩ := x
    refine af_enter tok Try.func100 Try.ntmps100 Try.results100 rfl (by kernel_rfl) rfl rfl fun F hX => ?_
    repeat (first | refine gG ?_ | refine zAl (fun _ => ?_) | refine zBx (fun _ => ?_))
    refine zCallGc [1] (h1 _) ?_
    rintro _ _ ⟨rfl, rfl⟩
    refine ⟨_, _, re_refl, rfl, rfl, ?_⟩
    repeat (first | refine gG ?_ | refine zAl (fun _ => ?_) | refine zBx (fun _ => ?_))
    refine zCallG [1] (doneR_ag _ s) ?_
    rintro _ _ ⟨rfl, rfl⟩
    refine ⟨_, _, re_refl, rfl, rfl, ?_⟩
    cases d1 : (!s.bad && decide (s.l = []))
    · repeat (first | refine gG ?_ | refine zAl (fun _ => ?_) | refine zBx (fun _ => ?_))
      first | refine zR (ts := [Par.zero.t, .lit (.int .i64 3)]) ?_ | refine zQ (ts := [Par.zero.t, .lit (.int .i64 3)]) ?_
      rfl
    · repeat (first | refine gG ?_ | refine zAl (fun _ => ?_) | refine zBx (fun _ => ?_))
      refine zCallc (h2) ?_
      rintro _ rfl
      cases d2 : decide (e = 0)
      · repeat (first | refine gG ?_ | refine zAl (fun _ => ?_) | refine zBx (fun _ => ?_))
        first | refine zR (ts := [Par.zero.t, .lit (.int .i64 3)]) ?_ | refine zQ (ts := [Par.zero.t, .lit (.int .i64 3)]) ?_
        rfl
      · repeat (first | refine gG ?_ | refine zAl (fun _ => ?_) | refine zBx (fun _ => ?_))
        first | refine zR (ts := [(Par.mk rf ⟨ac, st, ip⟩ bx tk wt lk).t, .lit (.int .i64 0)]) ?_ | refine zQ (ts := [(Par.mk rf ⟨ac, st, ip⟩ bx tk wt lk).t, .lit (.int .i64 0)]) ?_
        rfl
  generalize rdP l = q at *
  obtain ⟨⟨rf, ⟨ac, st, ip⟩, bx, tk, wt, lk⟩, e⟩ := q
  dsimp only at h1 ⊢
  refine af_enter tok Try.func38 Try.ntmps38 Try.results38 rfl (by kernel_rfl) rfl rfl fun F hX => ?_
  repeat (first | refine gG ?_ | refine zAl (fun _ => ?_))
  refine zCall (h1) ?_
  rintro _ rfl
  repeat (first | refine gG ?_ | refine zAl (fun _ => ?_))
  first | refine zR (ts := [(Par.mk rf ⟨ac, st, ip⟩ bx tk wt lk).t, .lit (.int .i64 e)]) ?_ | refine zQ (ts := [(Par.mk rf ⟨ac, st, ip⟩ bx tk wt lk).t, .lit (.int .i64 e)]) ?_
  rfl
end Go.Proofs.Ythgackidonocpaa
namespace Go.Proofs.Ythgackidonocpaa
open Go.RowKit
theorem tPar_eq {s s1 s2 s3 s4 s5 s6 s7 s8 s9 : TS} {rf m3 m6 m8 : Nat} {sv : Sav} {bx : List Lt} {tk : Int} {wt lk : List Int} (e1 : tNat s = (rf, s1)) (e2 : tSav s1 = (sv, s2)) (e3 : tNat s2 = (m3, s3)) (e4 : tRep tLet m3 s3 = (bx, s4)) (e5 : tNum s4 = (tk, s5)) (e6 : tNat s5 = (m6, s6)) (e7 : tRep tNatI m6 s6 = (wt, s7)) (e8 : tNat s7 = (m8, s8)) (e9 : tRep tNatI m8 s8 = (lk, s9)) : tPar s = (⟨rf, sv, bx, tk, wt, lk⟩, s9) := by
  have h3 : tLets s2 = (bx, s4) := by unfold tLets; rw [e3]; exact e4
  have h5 : tNats s5 = (wt, s7) := by unfold tNats; rw [e6]; exact e7
  have h6 : tNats s7 = (lk, s9) := by unfold tNats; rw [e8]; exact e9
  unfold tPar
  simp only [e1, e2, h3, e5, h5, h6]
theorem tNatI_eq (s : TS) : tNatI s = (((tNat s).1 : Int), (tNat s).2) := rfl
set_option maxRecDepth 100000 in
set_option maxHeartbeats 4000000 in
theorem parcelOf_af (l : List UInt8) (hl : l.length ≤ 2097152) : AF Try.prog 39 [bytRow l] (OutP (tdP l).1 (tdP l).2) := by
  have hsm := tPar_small ⟨l, true⟩ hl
  rcases e1 : tNat ⟨l, true⟩ with ⟨rf, s1⟩
  have c1 := fun b => tnat_ag b ⟨l, true⟩
  have g1 := (tNat_et ⟨l, true⟩).1
  simp only [e1] at c1 g1
  rcases e2 : tSav s1 with ⟨⟨ac, st, ip⟩, s2⟩
  have c2 := fun b => savedT_ag b s1 (by omega)
  have g2 := (tSav_et s1).1
  simp only [e2] at c2 g2
  rcases e3 : tNat s2 with ⟨m3, s3⟩
  have c3 := fun b => tnat_ag b s2
  have n3 := tNat_lt s2
  have g3 := (tNat_et s2).1
  simp only [e3] at c3 n3 g3
  rcases hq4 : tRep tLet m3 s3 with ⟨bx, s4⟩
  have g4 := (tRep_dn tLet_et m3 s3).1.1
  rw [hq4] at g4
  rcases e5 : tNum s4 with ⟨tk, s5⟩
  have c5 := fun b => tnum_ag b s4
  have g5 := (tNum_et s4).1
  simp only [e5] at c5 g5
  rcases e6 : tNat s5 with ⟨m6, s6⟩
  have c6 := fun b => tnat_ag b s5
  have n6 := tNat_lt s5
  have g6 := (tNat_et s5).1
  simp only [e6] at c6 n6 g6
  rcases hq7 : tRep tNatI m6 s6 with ⟨wt, s7⟩
  have g7 := (tRep_dn tNatI_et m6 s6).1.1
  rw [hq7] at g7
  rcases e8 : tNat s7 with ⟨m8, s8⟩
  have c8 := fun b => tnat_ag b s7
  have n8 := tNat_lt s7
  have g8 := (tNat_et s7).1
  simp only [e8] at c8 n8 g8
  rcases hq9 : tRep tNatI m8 s8 with ⟨lk, s9⟩
  have hE := tPar_eq e1 e2 e3 hq4 e5 e6 hq7 e8 hq9
  rw [hE] at hsm
  unfold tdP
  rw [hE]
  dsimp only at hsm g4 g7 ⊢
  clear hE
  have hB := parcelBytes_af _ hsm
  clear hsm
  generalize hop : (Par.mk rf ⟨ac, st, ip⟩ bx tk wt lk).out = o at *
  generalize hep : (Par.mk rf ⟨ac, st, ip⟩ bx tk wt lk).check = e at *
  clear hop hep
  refine af_enter tok Try.func39 Try.ntmps39 Try.results39 rfl (by kernel_rfl) rfl rfl fun F hX => ?_
  repeat (first | refine gG ?_ | refine zN1 (fun hlen => ?_) | refine zN2 (fun hlen => ?_) | refine zAl (fun _ => ?_) | refine zBx (fun _ => ?_) | refine zAp (fun _ => ?_))
  refine zCallG [1] (c1 _) ?_
  rintro _ _ ⟨rfl, rfl⟩
  refine ⟨_, _, re_refl, rfl, rfl, ?_⟩
  repeat (first | refine gG ?_ | refine zN1 (fun hlen => ?_) | refine zN2 (fun hlen => ?_) | refine zAl (fun _ => ?_) | refine zBx (fun _ => ?_) | refine zAp (fun _ => ?_))
  refine zCallG [1] (c2 _) ?_
  rintro _ _ ⟨rfl, rfl⟩
  refine ⟨_, _, re_refl, rfl, rfl, ?_⟩
  repeat (first | refine gG ?_ | refine zN1 (fun hlen => ?_) | refine zN2 (fun hlen => ?_) | refine zAl (fun _ => ?_) | refine zBx (fun _ => ?_) | refine zAp (fun _ => ?_))
  refine zCallG [1] (c3 _) ?_
  rintro _ _ ⟨rfl, rfl⟩
  refine ⟨_, _, re_refl, rfl, rfl, ?_⟩
  repeat (first | refine gG ?_ | refine zN1 (fun hlen => ?_) | refine zN2 (fun hlen => ?_) | refine zAl (fun _ => ?_) | refine zBx (fun _ => ?_) | refine zAp (fun _ => ?_))
  rename_i b0 b1 b2
  refine x_own_cell 2 4 38 9 rfl rfl rfl rfl rfl rfl ?_
  refine x_loop [6, 22, 23, 24, 25, 26, 27, 28, 29, 30, 31, 32, 33, 34, 35, 36, 37, 38] (fun y : Nat × List Lt × Value × TS => [(6, .c (.lit (.int .i64 (y.1 : Int))))]) (fun y => [.box b0 58 [.c (.lit (.int .i64 0)), .c (.lit (.string ⟨#[]⟩)), .c (.lit (.slice none 0 0)), .c (.lit (.slice none 0 0)), .c (.lit (.slice none 0 0)), .c (.lit (.int .i64 0)), .c (.lit (.slice none 0 0)), .c (.lit (.slice none 0 0))], tkB b1 y.2.2.2, .box b2 58 [.c (.lit (.int .i64 (rf : Int))), .c (.lit (.string ac)), .c (V.row st), .c (inpRow ip), .own 3 y.2.2.1, .c (.lit (.int .i64 0)), .c (.lit (.slice none 0 0)), .c (.lit (.slice none 0 0))], .row y.2.2.1 38 9 y.2.1.length (y.2.1.flatMap Lt.ts)])
    (fun y => y.1 ≤ 9223372036854775807 ∧ (y.2.2.2.ok = true → y.2.1.length + y.2.2.2.l.length ≤ 2097152) ∧ (y.2.1 ++ (tRep tLet y.1 y.2.2.2).1, (tRep tLet y.1 y.2.2.2).2) = (bx, s4)) (fun y => y.1) (m3, [], .slice none 0 0, s3) ⟨n3, fun _ => by simp only [List.length_nil]; omega, by simp only [List.nil_append, hq4]⟩ ⟨rfl, trivial⟩ rfl ?_
  rintro ⟨j, out, v, s'⟩ ⟨h1, h2, hinv⟩
  dsimp only at h1 h2 hinv ⊢
  refine ac_seq ?_
  refine ac_seq ?_
  refine x_join [22, 23, 24, 25, 26, 27, 28, 29] (fun y : {c : Bool // c = (decide ((0 : Int) < (j : Int)) && s'.ok)} => [(29, .c (.lit (.bool y.1)))]) (fun _ => [.box b0 58 [.c (.lit (.int .i64 0)), .c (.lit (.string ⟨#[]⟩)), .c (.lit (.slice none 0 0)), .c (.lit (.slice none 0 0)), .c (.lit (.slice none 0 0)), .c (.lit (.int .i64 0)), .c (.lit (.slice none 0 0)), .c (.lit (.slice none 0 0))], tkB b1 s', .box b2 58 [.c (.lit (.int .i64 (rf : Int))), .c (.lit (.string ac)), .c (V.row st), .c (inpRow ip), .own 3 v, .c (.lit (.int .i64 0)), .c (.lit (.slice none 0 0)), .c (.lit (.slice none 0 0))], .row v 38 9 out.length (out.flatMap Lt.ts)]) ?_ ?_
  rotate_left
  · cases d1 : decide ((0 : Int) < (j : Int))
    · refine ac_region ?_
      repeat (first | refine gO ?_ | refine zN1 (fun hlen => ?_) | refine zN2 (fun hlen => ?_) | refine zAl (fun _ => ?_) | refine zBx (fun _ => ?_) | refine zAp (fun _ => ?_))
      exact ⟨⟨false, by simp⟩, x_wkd 4 ⟨rfl, trivial⟩ rfl (by repeat (first | exact ag_refl | refine ag_upd rfl ?_ | refine ag_at rfl rfl ?_))⟩
    · refine ac_region ?_
      repeat (first | refine gO ?_ | refine zN1 (fun hlen => ?_) | refine zN2 (fun hlen => ?_) | refine zAl (fun _ => ?_) | refine zBx (fun _ => ?_) | refine zAp (fun _ => ?_))
      exact ⟨⟨s'.ok, by simp⟩, x_wkd 4 ⟨rfl, trivial⟩ rfl (by repeat (first | exact ag_refl | refine ag_upd rfl ?_ | refine ag_at rfl rfl ?_))⟩
  rintro ⟨c, hc⟩
  dsimp only
  cases c
  rotate_left
  · obtain ⟨j', rfl, hok, hrep⟩ := tRep_go (g := tLet) hc.symm
    have hb := h2 hok
    have hca := letterT_ag b1 s'
    have he := tLet_et s'
    rw [hrep] at hinv
    generalize tLet s' = q at *
    obtain ⟨⟨ka, fa, ta, na, sa, ⟨kv, nv, tv, lv⟩⟩, s2'⟩ := q
    dsimp only at hinv hca he
    repeat (first | refine gG ?_ | refine zN1 (fun hlen => ?_) | refine zN2 (fun hlen => ?_) | refine zAl (fun _ => ?_) | refine zBx (fun _ => ?_) | refine zAp (fun _ => ?_))
    refine ac_drawT [0, 2, 0, 2, 0, 2, 0, 2] (.fork [0, 2] 1 (.fin [3, 4, 5, 6, 7]) 3 (.fin [4, 1, 5, 6, 7])) (by kernel_rfl) (by kernel_rfl) ?_
    refine wt_fork ?_
    refine gW ?_
    refine w_nil ?_
    refine ⟨?_, ?_⟩
    · apply w_l; (focus exact rfl); (focus exact rfl); (first | refine zL1 ?_ | refine zL2 ?_ | refine zL3 ?_ | refine zLp ?_)
      refine w_nil ?_
      refine wt_fin ?_
      apply w_l; (focus exact rfl); (focus exact rfl); (refine zCallG [1] hca ?_; rintro _ _ ⟨rfl, rfl⟩; refine ⟨_, _, re_refl, rfl, rfl, ?_⟩)
      refine gW ?_
      apply w_l; (focus exact rfl); (focus exact rfl); (first | (refine zkL ?_; first | refine zL1 ?_ | refine zL2 ?_ | refine zL3 ?_ | refine zLp ?_) | refine zM ?_ | (refine zkF ?_; first | refine zF1 ?_ | refine zF2 ?_ | refine zF3 ?_) | refine zA ?_ | (refine zkB ?_; first | refine zC5 ?_ | refine zC6 ?_ | refine zC1 ?_ | refine zC2 ?_ | refine zC3 ?_ | refine zC4 ?_ | refine zS5 ?_ | refine zS6 ?_ | refine zS1 ?_ | refine zS2 ?_ | refine zS3 ?_ | refine zS4 ?_ | refine zInc ?_ | refine zQ1 ?_ | refine zQ2 ?_ | refine zQ3 ?_ | refine zQ4 ?_ | refine zQ5 ?_ | refine zQ6 ?_) | (refine zkI ?_; first | refine zN1 (fun hlen => ?_) | refine zN2 (fun hlen => ?_) | refine zN3 ?_ | refine zN4 ?_ | refine zAp (fun _ => ?_)) | refine zS ?_ | refine zAl (fun _ => ?_) | refine zBx (fun _ => ?_) | refine zPt ?_ | refine zPf ?_ | refine zE ?_ | refine zEA ?_ | refine zNot ?_ | refine zBd ?_ | refine zBs ?_ | refine zFn ?_ | refine zK1 ?_ | refine zK2 ?_)
      refine gW ?_
      apply w_l; (focus exact rfl); (focus exact rfl); (first | (refine zkL ?_; first | refine zL1 ?_ | refine zL2 ?_ | refine zL3 ?_ | refine zLp ?_) | refine zM ?_ | (refine zkF ?_; first | refine zF1 ?_ | refine zF2 ?_ | refine zF3 ?_) | refine zA ?_ | (refine zkB ?_; first | refine zC5 ?_ | refine zC6 ?_ | refine zC1 ?_ | refine zC2 ?_ | refine zC3 ?_ | refine zC4 ?_ | refine zS5 ?_ | refine zS6 ?_ | refine zS1 ?_ | refine zS2 ?_ | refine zS3 ?_ | refine zS4 ?_ | refine zInc ?_ | refine zQ1 ?_ | refine zQ2 ?_ | refine zQ3 ?_ | refine zQ4 ?_ | refine zQ5 ?_ | refine zQ6 ?_) | (refine zkI ?_; first | refine zN1 (fun hlen => ?_) | refine zN2 (fun hlen => ?_) | refine zN3 ?_ | refine zN4 ?_ | refine zAp (fun _ => ?_)) | refine zS ?_ | refine zAl (fun _ => ?_) | refine zBx (fun _ => ?_) | refine zPt ?_ | refine zPf ?_ | refine zE ?_ | refine zEA ?_ | refine zNot ?_ | refine zBd ?_ | refine zBs ?_ | refine zFn ?_ | refine zK1 ?_ | refine zK2 ?_)
      refine w_nil ?_
      repeat (first | refine gG ?_ | refine zN1 (fun hlen => ?_) | refine zN2 (fun hlen => ?_) | refine zAl (fun _ => ?_) | refine zBx (fun _ => ?_) | refine zAp (fun _ => ?_))
      refine lo_sub rfl rfl (r := (j' : Int)) (by rw [IntWalk.i64_in _ (by omega)]; omega) ?_
      repeat (first | refine gG ?_ | refine zN1 (fun hlen => ?_) | refine zN2 (fun hlen => ?_) | refine zAl (fun _ => ?_) | refine zBx (fun _ => ?_) | refine zAp (fun _ => ?_))
      exact ⟨(j', out ++ [.mk ka fa ta na sa (.mk kv nv tv lv)], _, s2'), ⟨by simp only; omega, fun ho => by have := (he.2 ho).2; simp only [List.length_append, List.length_cons, List.length_nil] at this ⊢; omega, by simpa using hinv⟩, by simp only; omega, x_wkd 4 ⟨rfl, trivial⟩ (by simp only [List.flatMap_append, List.flatMap_cons, List.flatMap_nil, List.append_nil, List.length_append, List.length_cons, List.length_nil]; rfl) (by repeat (first | exact ag_refl | refine ag_upd rfl ?_ | refine ag_at rfl rfl ?_))⟩
    · apply w_l; (focus exact rfl); (focus exact rfl); (refine zCallG [1] hca ?_; rintro _ _ ⟨rfl, rfl⟩; refine ⟨_, _, re_refl, rfl, rfl, ?_⟩)
      refine w_nil ?_
      refine wt_fin ?_
      refine gW ?_
      apply w_l; (focus exact rfl); (focus exact rfl); (first | refine zL1 ?_ | refine zL2 ?_ | refine zL3 ?_ | refine zLp ?_)
      apply w_l; (focus exact rfl); (focus exact rfl); (first | (refine zkL ?_; first | refine zL1 ?_ | refine zL2 ?_ | refine zL3 ?_ | refine zLp ?_) | refine zM ?_ | (refine zkF ?_; first | refine zF1 ?_ | refine zF2 ?_ | refine zF3 ?_) | refine zA ?_ | (refine zkB ?_; first | refine zC5 ?_ | refine zC6 ?_ | refine zC1 ?_ | refine zC2 ?_ | refine zC3 ?_ | refine zC4 ?_ | refine zS5 ?_ | refine zS6 ?_ | refine zS1 ?_ | refine zS2 ?_ | refine zS3 ?_ | refine zS4 ?_ | refine zInc ?_ | refine zQ1 ?_ | refine zQ2 ?_ | refine zQ3 ?_ | refine zQ4 ?_ | refine zQ5 ?_ | refine zQ6 ?_) | (refine zkI ?_; first | refine zN1 (fun hlen => ?_) | refine zN2 (fun hlen => ?_) | refine zN3 ?_ | refine zN4 ?_ | refine zAp (fun _ => ?_)) | refine zS ?_ | refine zAl (fun _ => ?_) | refine zBx (fun _ => ?_) | refine zPt ?_ | refine zPf ?_ | refine zE ?_ | refine zEA ?_ | refine zNot ?_ | refine zBd ?_ | refine zBs ?_ | refine zFn ?_ | refine zK1 ?_ | refine zK2 ?_)
      refine gW ?_
      apply w_l; (focus exact rfl); (focus exact rfl); (first | (refine zkL ?_; first | refine zL1 ?_ | refine zL2 ?_ | refine zL3 ?_ | refine zLp ?_) | refine zM ?_ | (refine zkF ?_; first | refine zF1 ?_ | refine zF2 ?_ | refine zF3 ?_) | refine zA ?_ | (refine zkB ?_; first | refine zC5 ?_ | refine zC6 ?_ | refine zC1 ?_ | refine zC2 ?_ | refine zC3 ?_ | refine zC4 ?_ | refine zS5 ?_ | refine zS6 ?_ | refine zS1 ?_ | refine zS2 ?_ | refine zS3 ?_ | refine zS4 ?_ | refine zInc ?_ | refine zQ1 ?_ | refine zQ2 ?_ | refine zQ3 ?_ | refine zQ4 ?_ | refine zQ5 ?_ | refine zQ6 ?_) | (refine zkI ?_; first | refine zN1 (fun hlen => ?_) | refine zN2 (fun hlen => ?_) | refine zN3 ?_ | refine zN4 ?_ | refine zAp (fun _ => ?_)) | refine zS ?_ | refine zAl (fun _ => ?_) | refine zBx (fun _ => ?_) | refine zPt ?_ | refine zPf ?_ | refine zE ?_ | refine zEA ?_ | refine zNot ?_ | refine zBd ?_ | refine zBs ?_ | refine zFn ?_ | refine zK1 ?_ | refine zK2 ?_)
      refine w_nil ?_
      repeat (first | refine gG ?_ | refine zN1 (fun hlen => ?_) | refine zN2 (fun hlen => ?_) | refine zAl (fun _ => ?_) | refine zBx (fun _ => ?_) | refine zAp (fun _ => ?_))
      refine lo_sub rfl rfl (r := (j' : Int)) (by rw [IntWalk.i64_in _ (by omega)]; omega) ?_
      repeat (first | refine gG ?_ | refine zN1 (fun hlen => ?_) | refine zN2 (fun hlen => ?_) | refine zAl (fun _ => ?_) | refine zBx (fun _ => ?_) | refine zAp (fun _ => ?_))
      exact ⟨(j', out ++ [.mk ka fa ta na sa (.mk kv nv tv lv)], _, s2'), ⟨by simp only; omega, fun ho => by have := (he.2 ho).2; simp only [List.length_append, List.length_cons, List.length_nil] at this ⊢; omega, by simpa using hinv⟩, by simp only; omega, x_wkd 4 ⟨rfl, trivial⟩ (by simp only [List.flatMap_append, List.flatMap_cons, List.flatMap_nil, List.append_nil, List.length_append, List.length_cons, List.length_nil]; rfl) (by repeat (first | exact ag_refl | refine ag_upd rfl ?_ | refine ag_at rfl rfl ?_))⟩
  rw [tRep_stop hc.symm] at hinv
  simp only [List.append_nil, Prod.mk.injEq] at hinv
  obtain ⟨hx, hy⟩ := hinv
  subst out
  subst s'
  clear hc h1 h2
  refine x_fzc 2 4 ?_
  repeat (first | refine gG ?_ | refine zN1 (fun hlen => ?_) | refine zN2 (fun hlen => ?_) | refine zAl (fun _ => ?_) | refine zBx (fun _ => ?_) | refine zAp (fun _ => ?_))
  refine zCallG [1] (c5 _) ?_
  rintro _ _ ⟨rfl, rfl⟩
  refine ⟨_, _, re_refl, rfl, rfl, ?_⟩
  repeat (first | refine gG ?_ | refine zN1 (fun hlen => ?_) | refine zN2 (fun hlen => ?_) | refine zAl (fun _ => ?_) | refine zBx (fun _ => ?_) | refine zAp (fun _ => ?_))
  refine zCallG [1] (c6 _) ?_
  rintro _ _ ⟨rfl, rfl⟩
  refine ⟨_, _, re_refl, rfl, rfl, ?_⟩
  repeat (first | refine gG ?_ | refine zN1 (fun hlen => ?_) | refine zN2 (fun hlen => ?_) | refine zAl (fun _ => ?_) | refine zBx (fun _ => ?_) | refine zAp (fun _ => ?_))
  refine x_own_cell 2 6 3 1 rfl rfl rfl rfl rfl rfl ?_
  refine x_loop [7, 44, 45, 46, 47, 48, 49, 50, 51, 52, 53, 54, 55, 56, 57, 58, 59, 60] (fun y : Nat × List Int × Value × TS => [(7, .c (.lit (.int .i64 (y.1 : Int))))]) (fun y => [.box b0 58 [.c (.lit (.int .i64 0)), .c (.lit (.string ⟨#[]⟩)), .c (.lit (.slice none 0 0)), .c (.lit (.slice none 0 0)), .c (.lit (.slice none 0 0)), .c (.lit (.int .i64 0)), .c (.lit (.slice none 0 0)), .c (.lit (.slice none 0 0))], tkB b1 y.2.2.2, .box b2 58 [.c (.lit (.int .i64 (rf : Int))), .c (.lit (.string ac)), .c (V.row st), .c (inpRow ip), .c (.row bx.length 9 (bx.flatMap Lt.ts)), .c (.lit (.int .i64 tk)), .own 4 y.2.2.1, .c (.lit (.slice none 0 0))], .dead, .row y.2.2.1 3 1 y.2.1.length (y.2.1.flatMap intTs)])
    (fun y => y.1 ≤ 9223372036854775807 ∧ (y.2.2.2.ok = true → y.2.1.length + y.2.2.2.l.length ≤ 2097152) ∧ (y.2.1 ++ (tRep tNatI y.1 y.2.2.2).1, (tRep tNatI y.1 y.2.2.2).2) = (wt, s7)) (fun y => y.1) (m6, [], .slice none 0 0, s6) ⟨n6, fun _ => by simp only [List.length_nil]; omega, by simp only [List.nil_append, hq7]⟩ ⟨rfl, trivial⟩ rfl ?_
  rintro ⟨j, out, v, s'⟩ ⟨h1, h2, hinv⟩
  dsimp only at h1 h2 hinv ⊢
  refine ac_seq ?_
  refine ac_seq ?_
  refine x_join [44, 45, 46, 47, 48, 49, 50, 51] (fun y : {c : Bool // c = (decide ((0 : Int) < (j : Int)) && s'.ok)} => [(51, .c (.lit (.bool y.1)))]) (fun _ => [.box b0 58 [.c (.lit (.int .i64 0)), .c (.lit (.string ⟨#[]⟩)), .c (.lit (.slice none 0 0)), .c (.lit (.slice none 0 0)), .c (.lit (.slice none 0 0)), .c (.lit (.int .i64 0)), .c (.lit (.slice none 0 0)), .c (.lit (.slice none 0 0))], tkB b1 s', .box b2 58 [.c (.lit (.int .i64 (rf : Int))), .c (.lit (.string ac)), .c (V.row st), .c (inpRow ip), .c (.row bx.length 9 (bx.flatMap Lt.ts)), .c (.lit (.int .i64 tk)), .own 4 v, .c (.lit (.slice none 0 0))], .dead, .row v 3 1 out.length (out.flatMap intTs)]) ?_ ?_
  rotate_left
  · cases d1 : decide ((0 : Int) < (j : Int))
    · refine ac_region ?_
      repeat (first | refine gO ?_ | refine zN1 (fun hlen => ?_) | refine zN2 (fun hlen => ?_) | refine zAl (fun _ => ?_) | refine zBx (fun _ => ?_) | refine zAp (fun _ => ?_))
      exact ⟨⟨false, by simp⟩, x_wkd 5 ⟨rfl, trivial⟩ rfl (by repeat (first | exact ag_refl | refine ag_upd rfl ?_ | refine ag_at rfl rfl ?_))⟩
    · refine ac_region ?_
      repeat (first | refine gO ?_ | refine zN1 (fun hlen => ?_) | refine zN2 (fun hlen => ?_) | refine zAl (fun _ => ?_) | refine zBx (fun _ => ?_) | refine zAp (fun _ => ?_))
      exact ⟨⟨s'.ok, by simp⟩, x_wkd 5 ⟨rfl, trivial⟩ rfl (by repeat (first | exact ag_refl | refine ag_upd rfl ?_ | refine ag_at rfl rfl ?_))⟩
  rintro ⟨c, hc⟩
  dsimp only
  cases c
  rotate_left
  · obtain ⟨j', rfl, hok, hrep⟩ := tRep_go (g := tNatI) hc.symm
    have hb := h2 hok
    have hca := tnat_ag b1 s'
    have he := tNatI_et s'
    rw [hrep] at hinv
    rw [tNatI_eq s'] at hinv he
    generalize tNat s' = q at *
    obtain ⟨nv, s2'⟩ := q
    dsimp only at hinv hca he
    repeat (first | refine gG ?_ | refine zN1 (fun hlen => ?_) | refine zN2 (fun hlen => ?_) | refine zAl (fun _ => ?_) | refine zBx (fun _ => ?_) | refine zAp (fun _ => ?_))
    refine ac_drawT [0, 2, 0, 2, 0, 2, 0, 2] (.fork [0, 2] 1 (.fin [3, 4, 5, 6, 7]) 3 (.fin [4, 1, 5, 6, 7])) (by kernel_rfl) (by kernel_rfl) ?_
    refine wt_fork ?_
    refine gW ?_
    refine w_nil ?_
    refine ⟨?_, ?_⟩
    · apply w_l; (focus exact rfl); (focus exact rfl); (first | refine zL1 ?_ | refine zL2 ?_ | refine zL3 ?_ | refine zLp ?_)
      refine w_nil ?_
      refine wt_fin ?_
      apply w_l; (focus exact rfl); (focus exact rfl); (refine zCallG [1] hca ?_; rintro _ _ ⟨rfl, rfl⟩; refine ⟨_, _, re_refl, rfl, rfl, ?_⟩)
      refine gW ?_
      apply w_l; (focus exact rfl); (focus exact rfl); (first | (refine zkL ?_; first | refine zL1 ?_ | refine zL2 ?_ | refine zL3 ?_ | refine zLp ?_) | refine zM ?_ | (refine zkF ?_; first | refine zF1 ?_ | refine zF2 ?_ | refine zF3 ?_) | refine zA ?_ | (refine zkB ?_; first | refine zC5 ?_ | refine zC6 ?_ | refine zC1 ?_ | refine zC2 ?_ | refine zC3 ?_ | refine zC4 ?_ | refine zS5 ?_ | refine zS6 ?_ | refine zS1 ?_ | refine zS2 ?_ | refine zS3 ?_ | refine zS4 ?_ | refine zInc ?_ | refine zQ1 ?_ | refine zQ2 ?_ | refine zQ3 ?_ | refine zQ4 ?_ | refine zQ5 ?_ | refine zQ6 ?_) | (refine zkI ?_; first | refine zN1 (fun hlen => ?_) | refine zN2 (fun hlen => ?_) | refine zN3 ?_ | refine zN4 ?_ | refine zAp (fun _ => ?_)) | refine zS ?_ | refine zAl (fun _ => ?_) | refine zBx (fun _ => ?_) | refine zPt ?_ | refine zPf ?_ | refine zE ?_ | refine zEA ?_ | refine zNot ?_ | refine zBd ?_ | refine zBs ?_ | refine zFn ?_ | refine zK1 ?_ | refine zK2 ?_)
      refine gW ?_
      apply w_l; (focus exact rfl); (focus exact rfl); (first | (refine zkL ?_; first | refine zL1 ?_ | refine zL2 ?_ | refine zL3 ?_ | refine zLp ?_) | refine zM ?_ | (refine zkF ?_; first | refine zF1 ?_ | refine zF2 ?_ | refine zF3 ?_) | refine zA ?_ | (refine zkB ?_; first | refine zC5 ?_ | refine zC6 ?_ | refine zC1 ?_ | refine zC2 ?_ | refine zC3 ?_ | refine zC4 ?_ | refine zS5 ?_ | refine zS6 ?_ | refine zS1 ?_ | refine zS2 ?_ | refine zS3 ?_ | refine zS4 ?_ | refine zInc ?_ | refine zQ1 ?_ | refine zQ2 ?_ | refine zQ3 ?_ | refine zQ4 ?_ | refine zQ5 ?_ | refine zQ6 ?_) | (refine zkI ?_; first | refine zN1 (fun hlen => ?_) | refine zN2 (fun hlen => ?_) | refine zN3 ?_ | refine zN4 ?_ | refine zAp (fun _ => ?_)) | refine zS ?_ | refine zAl (fun _ => ?_) | refine zBx (fun _ => ?_) | refine zPt ?_ | refine zPf ?_ | refine zE ?_ | refine zEA ?_ | refine zNot ?_ | refine zBd ?_ | refine zBs ?_ | refine zFn ?_ | refine zK1 ?_ | refine zK2 ?_)
      refine w_nil ?_
      repeat (first | refine gG ?_ | refine zN1 (fun hlen => ?_) | refine zN2 (fun hlen => ?_) | refine zAl (fun _ => ?_) | refine zBx (fun _ => ?_) | refine zAp (fun _ => ?_))
      refine lo_sub rfl rfl (r := (j' : Int)) (by rw [IntWalk.i64_in _ (by omega)]; omega) ?_
      repeat (first | refine gG ?_ | refine zN1 (fun hlen => ?_) | refine zN2 (fun hlen => ?_) | refine zAl (fun _ => ?_) | refine zBx (fun _ => ?_) | refine zAp (fun _ => ?_))
      exact ⟨(j', out ++ [(nv : Int)], _, s2'), ⟨by simp only; omega, fun ho => by have := (he.2 ho).2; simp only [List.length_append, List.length_cons, List.length_nil] at this ⊢; omega, by simpa using hinv⟩, by simp only; omega, x_wkd 5 ⟨rfl, trivial⟩ (by simp only [List.flatMap_append, List.flatMap_cons, List.flatMap_nil, List.append_nil, List.length_append, List.length_cons, List.length_nil]; rfl) (by repeat (first | exact ag_refl | refine ag_upd rfl ?_ | refine ag_at rfl rfl ?_))⟩
    · apply w_l; (focus exact rfl); (focus exact rfl); (refine zCallG [1] hca ?_; rintro _ _ ⟨rfl, rfl⟩; refine ⟨_, _, re_refl, rfl, rfl, ?_⟩)
      refine w_nil ?_
      refine wt_fin ?_
      refine gW ?_
      apply w_l; (focus exact rfl); (focus exact rfl); (first | refine zL1 ?_ | refine zL2 ?_ | refine zL3 ?_ | refine zLp ?_)
      apply w_l; (focus exact rfl); (focus exact rfl); (first | (refine zkL ?_; first | refine zL1 ?_ | refine zL2 ?_ | refine zL3 ?_ | refine zLp ?_) | refine zM ?_ | (refine zkF ?_; first | refine zF1 ?_ | refine zF2 ?_ | refine zF3 ?_) | refine zA ?_ | (refine zkB ?_; first | refine zC5 ?_ | refine zC6 ?_ | refine zC1 ?_ | refine zC2 ?_ | refine zC3 ?_ | refine zC4 ?_ | refine zS5 ?_ | refine zS6 ?_ | refine zS1 ?_ | refine zS2 ?_ | refine zS3 ?_ | refine zS4 ?_ | refine zInc ?_ | refine zQ1 ?_ | refine zQ2 ?_ | refine zQ3 ?_ | refine zQ4 ?_ | refine zQ5 ?_ | refine zQ6 ?_) | (refine zkI ?_; first | refine zN1 (fun hlen => ?_) | refine zN2 (fun hlen => ?_) | refine zN3 ?_ | refine zN4 ?_ | refine zAp (fun _ => ?_)) | refine zS ?_ | refine zAl (fun _ => ?_) | refine zBx (fun _ => ?_) | refine zPt ?_ | refine zPf ?_ | refine zE ?_ | refine zEA ?_ | refine zNot ?_ | refine zBd ?_ | refine zBs ?_ | refine zFn ?_ | refine zK1 ?_ | refine zK2 ?_)
      refine gW ?_
      apply w_l; (focus exact rfl); (focus exact rfl); (first | (refine zkL ?_; first | refine zL1 ?_ | refine zL2 ?_ | refine zL3 ?_ | refine zLp ?_) | refine zM ?_ | (refine zkF ?_; first | refine zF1 ?_ | refine zF2 ?_ | refine zF3 ?_) | refine zA ?_ | (refine zkB ?_; first | refine zC5 ?_ | refine zC6 ?_ | refine zC1 ?_ | refine zC2 ?_ | refine zC3 ?_ | refine zC4 ?_ | refine zS5 ?_ | refine zS6 ?_ | refine zS1 ?_ | refine zS2 ?_ | refine zS3 ?_ | refine zS4 ?_ | refine zInc ?_ | refine zQ1 ?_ | refine zQ2 ?_ | refine zQ3 ?_ | refine zQ4 ?_ | refine zQ5 ?_ | refine zQ6 ?_) | (refine zkI ?_; first | refine zN1 (fun hlen => ?_) | refine zN2 (fun hlen => ?_) | refine zN3 ?_ | refine zN4 ?_ | refine zAp (fun _ => ?_)) | refine zS ?_ | refine zAl (fun _ => ?_) | refine zBx (fun _ => ?_) | refine zPt ?_ | refine zPf ?_ | refine zE ?_ | refine zEA ?_ | refine zNot ?_ | refine zBd ?_ | refine zBs ?_ | refine zFn ?_ | refine zK1 ?_ | refine zK2 ?_)
      refine w_nil ?_
      repeat (first | refine gG ?_ | refine zN1 (fun hlen => ?_) | refine zN2 (fun hlen => ?_) | refine zAl (fun _ => ?_) | refine zBx (fun _ => ?_) | refine zAp (fun _ => ?_))
      refine lo_sub rfl rfl (r := (j' : Int)) (by rw [IntWalk.i64_in _ (by omega)]; omega) ?_
      repeat (first | refine gG ?_ | refine zN1 (fun hlen => ?_) | refine zN2 (fun hlen => ?_) | refine zAl (fun _ => ?_) | refine zBx (fun _ => ?_) | refine zAp (fun _ => ?_))
      exact ⟨(j', out ++ [(nv : Int)], _, s2'), ⟨by simp only; omega, fun ho => by have := (he.2 ho).2; simp only [List.length_append, List.length_cons, List.length_nil] at this ⊢; omega, by simpa using hinv⟩, by simp only; omega, x_wkd 5 ⟨rfl, trivial⟩ (by simp only [List.flatMap_append, List.flatMap_cons, List.flatMap_nil, List.append_nil, List.length_append, List.length_cons, List.length_nil]; rfl) (by repeat (first | exact ag_refl | refine ag_upd rfl ?_ | refine ag_at rfl rfl ?_))⟩
  rw [tRep_stop hc.symm] at hinv
  simp only [List.append_nil, Prod.mk.injEq] at hinv
  obtain ⟨hx, hy⟩ := hinv
  subst out
  subst s'
  clear hc h1 h2
  refine x_fzc 2 6 ?_
  repeat (first | refine gG ?_ | refine zN1 (fun hlen => ?_) | refine zN2 (fun hlen => ?_) | refine zAl (fun _ => ?_) | refine zBx (fun _ => ?_) | refine zAp (fun _ => ?_))
  refine zCallG [1] (c8 _) ?_
  rintro _ _ ⟨rfl, rfl⟩
  refine ⟨_, _, re_refl, rfl, rfl, ?_⟩
  repeat (first | refine gG ?_ | refine zN1 (fun hlen => ?_) | refine zN2 (fun hlen => ?_) | refine zAl (fun _ => ?_) | refine zBx (fun _ => ?_) | refine zAp (fun _ => ?_))
  refine x_own_cell 2 7 3 1 rfl rfl rfl rfl rfl rfl ?_
  refine x_loop [8, 63, 64, 65, 66, 67, 68, 69, 70, 71, 72, 73, 74, 75, 76, 77, 78, 79] (fun y : Nat × List Int × Value × TS => [(8, .c (.lit (.int .i64 (y.1 : Int))))]) (fun y => [.box b0 58 [.c (.lit (.int .i64 0)), .c (.lit (.string ⟨#[]⟩)), .c (.lit (.slice none 0 0)), .c (.lit (.slice none 0 0)), .c (.lit (.slice none 0 0)), .c (.lit (.int .i64 0)), .c (.lit (.slice none 0 0)), .c (.lit (.slice none 0 0))], tkB b1 y.2.2.2, .box b2 58 [.c (.lit (.int .i64 (rf : Int))), .c (.lit (.string ac)), .c (V.row st), .c (inpRow ip), .c (.row bx.length 9 (bx.flatMap Lt.ts)), .c (.lit (.int .i64 tk)), .c (.row wt.length 1 (wt.flatMap intTs)), .own 5 y.2.2.1], .dead, .dead, .row y.2.2.1 3 1 y.2.1.length (y.2.1.flatMap intTs)])
    (fun y => y.1 ≤ 9223372036854775807 ∧ (y.2.2.2.ok = true → y.2.1.length + y.2.2.2.l.length ≤ 2097152) ∧ (y.2.1 ++ (tRep tNatI y.1 y.2.2.2).1, (tRep tNatI y.1 y.2.2.2).2) = (lk, s9)) (fun y => y.1) (m8, [], .slice none 0 0, s8) ⟨n8, fun _ => by simp only [List.length_nil]; omega, by simp only [List.nil_append, hq9]⟩ ⟨rfl, trivial⟩ rfl ?_
  rintro ⟨j, out, v, s'⟩ ⟨h1, h2, hinv⟩
  dsimp only at h1 h2 hinv ⊢
  refine ac_seq ?_
  refine ac_seq ?_
  refine x_join [63, 64, 65, 66, 67, 68, 69, 70] (fun y : {c : Bool // c = (decide ((0 : Int) < (j : Int)) && s'.ok)} => [(70, .c (.lit (.bool y.1)))]) (fun _ => [.box b0 58 [.c (.lit (.int .i64 0)), .c (.lit (.string ⟨#[]⟩)), .c (.lit (.slice none 0 0)), .c (.lit (.slice none 0 0)), .c (.lit (.slice none 0 0)), .c (.lit (.int .i64 0)), .c (.lit (.slice none 0 0)), .c (.lit (.slice none 0 0))], tkB b1 s', .box b2 58 [.c (.lit (.int .i64 (rf : Int))), .c (.lit (.string ac)), .c (V.row st), .c (inpRow ip), .c (.row bx.length 9 (bx.flatMap Lt.ts)), .c (.lit (.int .i64 tk)), .c (.row wt.length 1 (wt.flatMap intTs)), .own 5 v], .dead, .dead, .row v 3 1 out.length (out.flatMap intTs)]) ?_ ?_
  rotate_left
  · cases d1 : decide ((0 : Int) < (j : Int))
    · refine ac_region ?_
      repeat (first | refine gO ?_ | refine zN1 (fun hlen => ?_) | refine zN2 (fun hlen => ?_) | refine zAl (fun _ => ?_) | refine zBx (fun _ => ?_) | refine zAp (fun _ => ?_))
      exact ⟨⟨false, by simp⟩, x_wkd 6 ⟨rfl, trivial⟩ rfl (by repeat (first | exact ag_refl | refine ag_upd rfl ?_ | refine ag_at rfl rfl ?_))⟩
    · refine ac_region ?_
      repeat (first | refine gO ?_ | refine zN1 (fun hlen => ?_) | refine zN2 (fun hlen => ?_) | refine zAl (fun _ => ?_) | refine zBx (fun _ => ?_) | refine zAp (fun _ => ?_))
      exact ⟨⟨s'.ok, by simp⟩, x_wkd 6 ⟨rfl, trivial⟩ rfl (by repeat (first | exact ag_refl | refine ag_upd rfl ?_ | refine ag_at rfl rfl ?_))⟩
  rintro ⟨c, hc⟩
  dsimp only
  cases c
  rotate_left
  · obtain ⟨j', rfl, hok, hrep⟩ := tRep_go (g := tNatI) hc.symm
    have hb := h2 hok
    have hca := tnat_ag b1 s'
    have he := tNatI_et s'
    rw [hrep] at hinv
    rw [tNatI_eq s'] at hinv he
    generalize tNat s' = q at *
    obtain ⟨nv, s2'⟩ := q
    dsimp only at hinv hca he
    repeat (first | refine gG ?_ | refine zN1 (fun hlen => ?_) | refine zN2 (fun hlen => ?_) | refine zAl (fun _ => ?_) | refine zBx (fun _ => ?_) | refine zAp (fun _ => ?_))
    refine ac_drawT [0, 2, 0, 2, 0, 2, 0, 2] (.fork [0, 2] 1 (.fin [3, 4, 5, 6, 7]) 3 (.fin [4, 1, 5, 6, 7])) (by kernel_rfl) (by kernel_rfl) ?_
    refine wt_fork ?_
    refine gW ?_
    refine w_nil ?_
    refine ⟨?_, ?_⟩
    · apply w_l; (focus exact rfl); (focus exact rfl); (first | refine zL1 ?_ | refine zL2 ?_ | refine zL3 ?_ | refine zLp ?_)
      refine w_nil ?_
      refine wt_fin ?_
      apply w_l; (focus exact rfl); (focus exact rfl); (refine zCallG [1] hca ?_; rintro _ _ ⟨rfl, rfl⟩; refine ⟨_, _, re_refl, rfl, rfl, ?_⟩)
      refine gW ?_
      apply w_l; (focus exact rfl); (focus exact rfl); (first | (refine zkL ?_; first | refine zL1 ?_ | refine zL2 ?_ | refine zL3 ?_ | refine zLp ?_) | refine zM ?_ | (refine zkF ?_; first | refine zF1 ?_ | refine zF2 ?_ | refine zF3 ?_) | refine zA ?_ | (refine zkB ?_; first | refine zC5 ?_ | refine zC6 ?_ | refine zC1 ?_ | refine zC2 ?_ | refine zC3 ?_ | refine zC4 ?_ | refine zS5 ?_ | refine zS6 ?_ | refine zS1 ?_ | refine zS2 ?_ | refine zS3 ?_ | refine zS4 ?_ | refine zInc ?_ | refine zQ1 ?_ | refine zQ2 ?_ | refine zQ3 ?_ | refine zQ4 ?_ | refine zQ5 ?_ | refine zQ6 ?_) | (refine zkI ?_; first | refine zN1 (fun hlen => ?_) | refine zN2 (fun hlen => ?_) | refine zN3 ?_ | refine zN4 ?_ | refine zAp (fun _ => ?_)) | refine zS ?_ | refine zAl (fun _ => ?_) | refine zBx (fun _ => ?_) | refine zPt ?_ | refine zPf ?_ | refine zE ?_ | refine zEA ?_ | refine zNot ?_ | refine zBd ?_ | refine zBs ?_ | refine zFn ?_ | refine zK1 ?_ | refine zK2 ?_)
      refine gW ?_
      apply w_l; (focus exact rfl); (focus exact rfl); (first | (refine zkL ?_; first | refine zL1 ?_ | refine zL2 ?_ | refine zL3 ?_ | refine zLp ?_) | refine zM ?_ | (refine zkF ?_; first | refine zF1 ?_ | refine zF2 ?_ | refine zF3 ?_) | refine zA ?_ | (refine zkB ?_; first | refine zC5 ?_ | refine zC6 ?_ | refine zC1 ?_ | refine zC2 ?_ | refine zC3 ?_ | refine zC4 ?_ | refine zS5 ?_ | refine zS6 ?_ | refine zS1 ?_ | refine zS2 ?_ | refine zS3 ?_ | refine zS4 ?_ | refine zInc ?_ | refine zQ1 ?_ | refine zQ2 ?_ | refine zQ3 ?_ | refine zQ4 ?_ | refine zQ5 ?_ | refine zQ6 ?_) | (refine zkI ?_; first | refine zN1 (fun hlen => ?_) | refine zN2 (fun hlen => ?_) | refine zN3 ?_ | refine zN4 ?_ | refine zAp (fun _ => ?_)) | refine zS ?_ | refine zAl (fun _ => ?_) | refine zBx (fun _ => ?_) | refine zPt ?_ | refine zPf ?_ | refine zE ?_ | refine zEA ?_ | refine zNot ?_ | refine zBd ?_ | refine zBs ?_ | refine zFn ?_ | refine zK1 ?_ | refine zK2 ?_)
      refine w_nil ?_
      repeat (first | refine gG ?_ | refine zN1 (fun hlen => ?_) | refine zN2 (fun hlen => ?_) | refine zAl (fun _ => ?_) | refine zBx (fun _ => ?_) | refine zAp (fun _ => ?_))
      refine lo_sub rfl rfl (r := (j' : Int)) (by rw [IntWalk.i64_in _ (by omega)]; omega) ?_
      repeat (first | refine gG ?_ | refine zN1 (fun hlen => ?_) | refine zN2 (fun hlen => ?_) | refine zAl (fun _ => ?_) | refine zBx (fun _ => ?_) | refine zAp (fun _ => ?_))
      exact ⟨(j', out ++ [(nv : Int)], _, s2'), ⟨by simp only; omega, fun ho => by have := (he.2 ho).2; simp only [List.length_append, List.length_cons, List.length_nil] at this ⊢; omega, by simpa using hinv⟩, by simp only; omega, x_wkd 6 ⟨rfl, trivial⟩ (by simp only [List.flatMap_append, List.flatMap_cons, List.flatMap_nil, List.append_nil, List.length_append, List.length_cons, List.length_nil]; rfl) (by repeat (first | exact ag_refl | refine ag_upd rfl ?_ | refine ag_at rfl rfl ?_))⟩
    · apply w_l; (focus exact rfl); (focus exact rfl); (refine zCallG [1] hca ?_; rintro _ _ ⟨rfl, rfl⟩; refine ⟨_, _, re_refl, rfl, rfl, ?_⟩)
      refine w_nil ?_
      refine wt_fin ?_
      refine gW ?_
      apply w_l; (focus exact rfl); (focus exact rfl); (first | refine zL1 ?_ | refine zL2 ?_ | refine zL3 ?_ | refine zLp ?_)
      apply w_l; (focus exact rfl); (focus exact rfl); (first | (refine zkL ?_; first | refine zL1 ?_ | refine zL2 ?_ | refine zL3 ?_ | refine zLp ?_) | refine zM ?_ | (refine zkF ?_; first | refine zF1 ?_ | refine zF2 ?_ | refine zF3 ?_) | refine zA ?_ | (refine zkB ?_; first | refine zC5 ?_ | refine zC6 ?_ | refine zC1 ?_ | refine zC2 ?_ | refine zC3 ?_ | refine zC4 ?_ | refine zS5 ?_ | refine zS6 ?_ | refine zS1 ?_ | refine zS2 ?_ | refine zS3 ?_ | refine zS4 ?_ | refine zInc ?_ | refine zQ1 ?_ | refine zQ2 ?_ | refine zQ3 ?_ | refine zQ4 ?_ | refine zQ5 ?_ | refine zQ6 ?_) | (refine zkI ?_; first | refine zN1 (fun hlen => ?_) | refine zN2 (fun hlen => ?_) | refine zN3 ?_ | refine zN4 ?_ | refine zAp (fun _ => ?_)) | refine zS ?_ | refine zAl (fun _ => ?_) | refine zBx (fun _ => ?_) | refine zPt ?_ | refine zPf ?_ | refine zE ?_ | refine zEA ?_ | refine zNot ?_ | refine zBd ?_ | refine zBs ?_ | refine zFn ?_ | refine zK1 ?_ | refine zK2 ?_)
      refine gW ?_
      apply w_l; (focus exact rfl); (focus exact rfl); (first | (refine zkL ?_; first | refine zL1 ?_ | refine zL2 ?_ | refine zL3 ?_ | refine zLp ?_) | refine zM ?_ | (refine zkF ?_; first | refine zF1 ?_ | refine zF2 ?_ | refine zF3 ?_) | refine zA ?_ | (refine zkB ?_; first | refine zC5 ?_ | refine zC6 ?_ | refine zC1 ?_ | refine zC2 ?_ | refine zC3 ?_ | refine zC4 ?_ | refine zS5 ?_ | refine zS6 ?_ | refine zS1 ?_ | refine zS2 ?_ | refine zS3 ?_ | refine zS4 ?_ | refine zInc ?_ | refine zQ1 ?_ | refine zQ2 ?_ | refine zQ3 ?_ | refine zQ4 ?_ | refine zQ5 ?_ | refine zQ6 ?_) | (refine zkI ?_; first | refine zN1 (fun hlen => ?_) | refine zN2 (fun hlen => ?_) | refine zN3 ?_ | refine zN4 ?_ | refine zAp (fun _ => ?_)) | refine zS ?_ | refine zAl (fun _ => ?_) | refine zBx (fun _ => ?_) | refine zPt ?_ | refine zPf ?_ | refine zE ?_ | refine zEA ?_ | refine zNot ?_ | refine zBd ?_ | refine zBs ?_ | refine zFn ?_ | refine zK1 ?_ | refine zK2 ?_)
      refine w_nil ?_
      repeat (first | refine gG ?_ | refine zN1 (fun hlen => ?_) | refine zN2 (fun hlen => ?_) | refine zAl (fun _ => ?_) | refine zBx (fun _ => ?_) | refine zAp (fun _ => ?_))
      refine lo_sub rfl rfl (r := (j' : Int)) (by rw [IntWalk.i64_in _ (by omega)]; omega) ?_
      repeat (first | refine gG ?_ | refine zN1 (fun hlen => ?_) | refine zN2 (fun hlen => ?_) | refine zAl (fun _ => ?_) | refine zBx (fun _ => ?_) | refine zAp (fun _ => ?_))
      exact ⟨(j', out ++ [(nv : Int)], _, s2'), ⟨by simp only; omega, fun ho => by have := (he.2 ho).2; simp only [List.length_append, List.length_cons, List.length_nil] at this ⊢; omega, by simpa using hinv⟩, by simp only; omega, x_wkd 6 ⟨rfl, trivial⟩ (by simp only [List.flatMap_append, List.flatMap_cons, List.flatMap_nil, List.append_nil, List.length_append, List.length_cons, List.length_nil]; rfl) (by repeat (first | exact ag_refl | refine ag_upd rfl ?_ | refine ag_at rfl rfl ?_))⟩
  rw [tRep_stop hc.symm] at hinv
  simp only [List.append_nil, Prod.mk.injEq] at hinv
  obtain ⟨hx, hy⟩ := hinv
  subst out
  subst s'
  clear hc h1 h2
  refine x_fzc 2 7 ?_
  have e3 : decide ((0 : Int) < (s9.l.length : Int)) = decide (0 < s9.l.length) := by
    by_cases hz : 0 < s9.l.length
    · rw [decide_eq_true hz, decide_eq_true (by omega)]
    · rw [decide_eq_false hz, decide_eq_false (by omega)]
  repeat (first | refine gG ?_ | refine zN1 (fun hlen => ?_) | refine zN2 (fun hlen => ?_) | refine zAl (fun _ => ?_) | refine zBx (fun _ => ?_) | refine zAp (fun _ => ?_))
  refine zCall (hB) ?_
  rintro _ rfl
  cases g1 : s9.ok
  · repeat (first | refine gG ?_ | refine zN1 (fun hlen => ?_) | refine zN2 (fun hlen => ?_) | refine zAl (fun _ => ?_) | refine zBx (fun _ => ?_) | refine zAp (fun _ => ?_))
    first | refine zR (ts := [Par.zero.t, .lit (.int .i64 3)]) ?_ | refine zQ (ts := [Par.zero.t, .lit (.int .i64 3)]) ?_
    rfl
  cases g2 : decide (0 < s9.l.length)
  rotate_left
  · have g2' := e3.trans g2
    repeat (first | refine gG ?_ | refine zN1 (fun hlen => ?_) | refine zN2 (fun hlen => ?_) | refine zAl (fun _ => ?_) | refine zBx (fun _ => ?_) | refine zAp (fun _ => ?_))
    first | refine zR (ts := [Par.zero.t, .lit (.int .i64 3)]) ?_ | refine zQ (ts := [Par.zero.t, .lit (.int .i64 3)]) ?_
    rfl
  have g2' := e3.trans g2
  cases g3 : decide (e = 0)
  · repeat (first | refine gG ?_ | refine zN1 (fun hlen => ?_) | refine zN2 (fun hlen => ?_) | refine zAl (fun _ => ?_) | refine zBx (fun _ => ?_) | refine zAp (fun _ => ?_))
    first | refine zR (ts := [Par.zero.t, .lit (.int .i64 3)]) ?_ | refine zQ (ts := [Par.zero.t, .lit (.int .i64 3)]) ?_
    rfl
  repeat (first | refine gG ?_ | refine zN1 (fun hlen => ?_) | refine zN2 (fun hlen => ?_) | refine zAl (fun _ => ?_) | refine zBx (fun _ => ?_) | refine zAp (fun _ => ?_))
  refine zStr o rfl rfl ?_
  repeat (first | refine gG ?_ | refine zN1 (fun hlen => ?_) | refine zN2 (fun hlen => ?_) | refine zAl (fun _ => ?_) | refine zBx (fun _ => ?_) | refine zAp (fun _ => ?_))
  refine zStr l rfl rfl ?_
  cases g4 : decide (bs o = bs l)
  · repeat (first | refine gG ?_ | refine zN1 (fun hlen => ?_) | refine zN2 (fun hlen => ?_) | refine zAl (fun _ => ?_) | refine zBx (fun _ => ?_) | refine zAp (fun _ => ?_))
    first | refine zR (ts := [Par.zero.t, .lit (.int .i64 3)]) ?_ | refine zQ (ts := [Par.zero.t, .lit (.int .i64 3)]) ?_
    rfl
  · repeat (first | refine gG ?_ | refine zN1 (fun hlen => ?_) | refine zN2 (fun hlen => ?_) | refine zAl (fun _ => ?_) | refine zBx (fun _ => ?_) | refine zAp (fun _ => ?_))
    first | refine zR (ts := [(Par.mk rf ⟨ac, st, ip⟩ bx tk wt lk).t, .lit (.int .i64 0)]) ?_ | refine zQ (ts := [(Par.mk rf ⟨ac, st, ip⟩ bx tk wt lk).t, .lit (.int .i64 0)]) ?_
    rfl
end Go.Proofs.Ythgackidonocpaa
namespace Go.Proofs.Ythgackidonocpaa
open Go.RowKit
set_option maxRecDepth 100000 in
set_option maxHeartbeats 4000000 in
theorem parcelSmall_af (p : Par) (hs : p.Small) (hn : p.sav.state.length ≤ 1048576) : AF Try.prog 41 [p.t] Tell := by
  have hv := savedSmall_af p.sav (fun v hv => (hs.sav.state v hv).2.1) (fun v hv => (hs.sav.inp v hv).2.1) hn
  have hbx := hs.box
  obtain ⟨rf, ⟨ac, st, ip⟩, l, tk, wt, lk⟩ := p
  dsimp only at hbx hv
  refine af_enter tok Try.func41 Try.ntmps41 Try.results41 rfl (by kernel_rfl) rfl rfl fun F hX => ?_
  repeat (first | refine gG ?_ | refine zN1 (fun hlen => ?_) | refine zN2 (fun hlen => ?_) | refine zAl (fun _ => ?_) | refine zBf ?_)
  refine x_loop [2, 4, 8, 9, 10, 11, 12, 13, 14, 15, 16] (fun k : Nat => [(8, .c (.lit (.int .i64 k)))]) (fun _ => []) (fun k => k ≤ l.length) (fun k => l.length - k) 0 (Nat.zero_le _) ⟨rfl, trivial⟩ rfl fun k hk => ?_
  repeat (first | refine gG ?_ | refine zN1 (fun hlen => ?_) | refine zN2 (fun hlen => ?_) | refine zAl (fun _ => ?_) | refine zBx (fun _ => ?_))
  refine x_cond rfl (fun h => ?_) (fun h => ?_)
  · have hk' : k < l.length := by simpa using h
    obtain ⟨a, ha⟩ := nth hk'
    have hs := valueSmall_af a.val (hbx a (List.mem_of_getElem? ha)).2.1
    repeat (first | refine gG ?_ | refine zN1 (fun hlen => ?_) | refine zN2 (fun hlen => ?_) | refine zAl (fun _ => ?_) | refine zBx (fun _ => ?_))
    refine zIx (k) (hk') ?_
    repeat (first | refine gG ?_ | refine zN1 (fun hlen => ?_) | refine zN2 (fun hlen => ?_) | refine zAl (fun _ => ?_) | refine zBx (fun _ => ?_))
    refine zEl (flat_at Lt.ts 9 Lt.ts_len ha) (Lt.ts_len a) ?_
    obtain ⟨ka, fa, ta, na, sa, ⟨kv, nv, tv, lv⟩⟩ := a
    simp only [Lt.val] at hs
    repeat (first | refine gG ?_ | refine zN1 (fun hlen => ?_) | refine zN2 (fun hlen => ?_) | refine zAl (fun _ => ?_) | refine zBx (fun _ => ?_))
    refine zCall (hs) ?_
    rintro _ ⟨b, rfl⟩
    cases b
    · repeat (first | refine gG ?_ | refine zN1 (fun hlen => ?_) | refine zN2 (fun hlen => ?_) | refine zAl (fun _ => ?_) | refine zBx (fun _ => ?_))
      first | refine zR ?_ | refine zQ ?_
      exact ⟨_, rfl⟩
    · repeat (first | refine gG ?_ | refine zN1 (fun hlen => ?_) | refine zN2 (fun hlen => ?_) | refine zAl (fun _ => ?_) | refine zBx (fun _ => ?_))
      exact ⟨k + 1, hk', by omega, x_wkd 0 ⟨rfl, trivial⟩ rfl (by repeat (first | exact ag_refl | refine ag_upd rfl ?_ | refine ag_at rfl rfl ?_))⟩
  · repeat (first | refine gG ?_ | refine zN1 (fun hlen => ?_) | refine zN2 (fun hlen => ?_) | refine zAl (fun _ => ?_) | refine zBx (fun _ => ?_))
    refine zCall (hv) ?_
    rintro _ ⟨b, rfl⟩
    repeat (first | refine gG ?_ | refine zN1 (fun hlen => ?_) | refine zN2 (fun hlen => ?_) | refine zAl (fun _ => ?_) | refine zBx (fun _ => ?_))
    first | refine zR ?_ | refine zQ ?_
    exact ⟨_, rfl⟩
set_option maxRecDepth 100000 in
set_option maxHeartbeats 1000000 in
theorem eqLets_af (f : FuncId) (l : List Lt) (hf : ∀ a ∈ l, AF Try.prog f [.agg (Lt.ts a), .agg (Lt.ts a)] (· = .lit (.bool true))) :
    AF Try.prog 104 [letRow l, letRow l, .fn (.func f) []] (· = .lit (.bool true)) := by
  have e0 : decide ((l.length : Int) = (l.length : Int)) = true := by simp
  refine af_enter tok Try.func104 Try.ntmps104 Try.results104 rfl (by kernel_rfl) rfl rfl fun F hX => ?_
  repeat (first | refine gG ?_ | refine zN1 (fun hlen => ?_) | refine zN2 (fun hlen => ?_) | refine zAl (fun _ => ?_))
  refine x_loop [6, 7, 8, 9, 17, 18, 19, 20, 21, 22, 23, 24, 25, 26, 27, 28, 29, 30, 31] (fun k : Nat => [(17, .c (.lit (.int .i64 k)))]) (fun _ => []) (fun k => k ≤ l.length) (fun k => l.length - k) 0 (Nat.zero_le _) ⟨rfl, trivial⟩ rfl fun k hk => ?_
  repeat (first | refine gG ?_ | refine zN1 (fun hlen => ?_) | refine zN2 (fun hlen => ?_) | refine zAl (fun _ => ?_))
  refine x_cond rfl (fun h => ?_) (fun h => ?_)
  · have hk' : k < l.length := by simpa using h
    obtain ⟨a, ha⟩ := nth hk'
    have hp := hf a (List.mem_of_getElem? ha)
    repeat (first | refine gG ?_ | refine zN1 (fun hlen => ?_) | refine zN2 (fun hlen => ?_) | refine zAl (fun _ => ?_))
    refine zIx (k) (hk') ?_
    repeat (first | refine gG ?_ | refine zN1 (fun hlen => ?_) | refine zN2 (fun hlen => ?_) | refine zAl (fun _ => ?_))
    refine zEl (flat_at Lt.ts 9 Lt.ts_len ha) (Lt.ts_len a) ?_
    obtain ⟨ka, fa, ta, na, sa, ⟨kv, nv, tv, lv⟩⟩ := a
    repeat (first | refine gG ?_ | refine zN1 (fun hlen => ?_) | refine zN2 (fun hlen => ?_) | refine zAl (fun _ => ?_))
    refine zIx (k) (hk') ?_
    repeat (first | refine gG ?_ | refine zN1 (fun hlen => ?_) | refine zN2 (fun hlen => ?_) | refine zAl (fun _ => ?_))
    refine zEl (flat_at Lt.ts 9 Lt.ts_len ha) (Lt.ts_len _) ?_
    repeat (first | refine gG ?_ | refine zN1 (fun hlen => ?_) | refine zN2 (fun hlen => ?_) | refine zAl (fun _ => ?_))
    refine zCallc (hp) ?_
    rintro _ rfl
    repeat (first | refine gG ?_ | refine zN1 (fun hlen => ?_) | refine zN2 (fun hlen => ?_) | refine zAl (fun _ => ?_))
    exact ⟨k + 1, hk', by omega, x_wkd 0 ⟨rfl, trivial⟩ rfl (by repeat (first | exact ag_refl | refine ag_upd rfl ?_ | refine ag_at rfl rfl ?_))⟩
  · repeat (first | refine gG ?_ | refine zN1 (fun hlen => ?_) | refine zN2 (fun hlen => ?_) | refine zAl (fun _ => ?_))
    first | refine zR ?_ | refine zQ ?_
    rfl
set_option maxRecDepth 100000 in
set_option maxHeartbeats 4000000 in
theorem eqInts_af (l : List Int) : AF Try.prog 53 [intRow l, intRow l] (· = .lit (.bool true)) := by
  have e0 : decide ((l.length : Int) = (l.length : Int)) = true := by simp
  refine af_enter tok Try.func53 Try.ntmps53 Try.results53 rfl (by kernel_rfl) rfl rfl fun F hX => ?_
  repeat (first | refine gG ?_ | refine zN1 (fun hlen => ?_) | refine zN2 (fun hlen => ?_))
  refine x_loop [4, 5, 13, 14, 15, 16, 17, 18, 19, 20, 21, 22, 23, 24, 25] (fun k : Nat => [(13, .c (.lit (.int .i64 k)))]) (fun _ => []) (fun k => k ≤ l.length) (fun k => l.length - k) 0 (Nat.zero_le _) ⟨rfl, trivial⟩ rfl fun k hk => ?_
  repeat (first | refine gG ?_ | refine zN1 (fun hlen => ?_) | refine zN2 (fun hlen => ?_))
  refine x_cond rfl (fun h => ?_) (fun h => ?_)
  · have hk' : k < l.length := by simpa using h
    obtain ⟨a, ha⟩ := nth hk'
    have e1 : decide (a = a) = true := by simp
    repeat (first | refine gG ?_ | refine zN1 (fun hlen => ?_) | refine zN2 (fun hlen => ?_))
    refine ac_draw [1, 1, 1, 1, 1, 1, 1, 1, 1] [0, 1, 2, 3, 4, 5, 6, 7, 8] (by kernel_rfl) (by kernel_rfl) ?_
    refine gW ?_
    apply w_q; (focus exact rfl); (focus exact rfl); focus (intro _; (refine zIx k hk' ?_); exact det_refl)
    apply w_q; (focus exact rfl); (focus exact rfl); focus (intro _; (refine zEl1 (int_at ha) ?_); exact det_refl)
    refine gW ?_
    apply w_q; (focus exact rfl); (focus exact rfl); focus (intro _; (refine zIx k hk' ?_); exact det_refl)
    apply w_q; (focus exact rfl); (focus exact rfl); focus (intro _; (refine zEl1 (int_at ha) ?_); exact det_refl)
    refine gW ?_
    refine w_nil ?_
    repeat (first | refine gG ?_ | refine zN1 (fun hlen => ?_) | refine zN2 (fun hlen => ?_))
    exact ⟨k + 1, hk', by omega, x_wkd 0 ⟨rfl, trivial⟩ rfl (by repeat (first | exact ag_refl | refine ag_upd rfl ?_ | refine ag_at rfl rfl ?_))⟩
  · repeat (first | refine gG ?_ | refine zN1 (fun hlen => ?_) | refine zN2 (fun hlen => ?_))
    first | refine zR ?_ | refine zQ ?_
    rfl
set_option maxRecDepth 100000 in
set_option maxHeartbeats 4000000 in
theorem sameLetter_af (x : Lt) : AF Try.prog 25 [.agg (Lt.ts x), .agg (Lt.ts x)] (· = .lit (.bool true)) := by
  obtain ⟨k, fm, tt, n, t, v⟩ := x
  have h3 := sameValue_af v v
  rw [V.same_refl] at h3
  have e1 : decide (k = k) = true := by simp
  have e2 : decide (fm = fm) = true := by simp
  have e3 : decide (tt = tt) = true := by simp
  have e4 : decide (n = n) = true := by simp
  have e5 : decide (t = t) = true := by simp
  obtain ⟨kv, nv, tv, lv⟩ := v
  refine af_enter tok Try.func25 Try.ntmps25 Try.results25 rfl (by kernel_rfl) rfl rfl fun F hX => ?_
  repeat (first | refine gG ?_ | refine zBf ?_)
  refine zCall (h3) ?_
  rintro _ rfl
  repeat (first | refine gG ?_ | refine zBx (fun _ => ?_))
  first | refine zR ?_ | refine zQ ?_
  rfl
set_option maxRecDepth 100000 in
set_option maxHeartbeats 4000000 in
theorem sameParcel_af (p : Par) : AF Try.prog 40 [p.t, p.t] (· = .lit (.bool true)) := by
  have h1 := sameSaved_af p.sav p.sav
  rw [Sav.same_refl] at h1
  have h2 := eqLets_af 25 p.box fun a _ => sameLetter_af a
  have h3 := eqInts_af p.wat
  have h4 := eqInts_af p.lnk
  obtain ⟨rf, ⟨ac, st, ip⟩, bx, tk, wt, lk⟩ := p
  have e1 : decide (rf = rf) = true := by simp
  have e2 : decide (tk = tk) = true := by simp
  refine af_enter tok Try.func40 Try.ntmps40 Try.results40 rfl (by kernel_rfl) rfl rfl fun F hX => ?_
  repeat (first | refine gG ?_ | refine zBf ?_)
  refine zCall (h1) ?_
  rintro _ rfl
  repeat (first | refine gG ?_ | refine zBx (fun _ => ?_))
  refine zCall (h2) ?_
  rintro _ rfl
  repeat (first | refine gG ?_ | refine zBx (fun _ => ?_))
  refine zCall (h3) ?_
  rintro _ rfl
  repeat (first | refine gG ?_ | refine zBx (fun _ => ?_))
  refine zCall (h4) ?_
  rintro _ rfl
  repeat (first | refine gG ?_ | refine zBx (fun _ => ?_))
  first | refine zR ?_ | refine zQ ?_
  rfl
set_option maxRecDepth 100000 in
set_option maxHeartbeats 4000000 in
theorem valueParcels_law (x : Par) (l : List UInt8) (hs : x.Small) (hn : x.sav.state.length ≤ 1048576) (hl : l.length ≤ 1048576) : AF Try.prog 7 [x.t, bytRow l] (· = .lit (.bool true)) := by
  have h0 := live_af
  have h1 := readParcel_af l (by omega)
  have h2 := parcelOf_af l (by omega)
  rw [← same_par l (by omega)] at h2
  generalize rdP l = q at *
  obtain ⟨y, e⟩ := q
  dsimp only at h1 h2
  have h3 := sameParcel_af y
  have h4 := parcelSmall_af x hs hn
  have h5 := parcelW_af x hs
  have h6 := parcelBytes_af x hs
  have h7 := checkParcel_af x
  have h8 := parcelFault_af x hs
  have h9 := sameBytes_af x.out x.out
  have e2 : decide (bs x.out = bs x.out) = true := by simp
  rw [e2] at h9
  have e1 : decide (e = e) = true := by simp
  have e3 : decide (x.check = x.check) = true := by simp
  clear hs hn
  generalize x.out = o at *
  generalize x.check = c at *
  obtain ⟨ry, ⟨ay, sy, iy⟩, by', ty, wy, ly⟩ := y
  obtain ⟨rf, ⟨ac, st, ip⟩, bx, tk, wt, lk⟩ := x
  refine af_enter tok Try.func7 Try.ntmps7 Try.results7 rfl (by kernel_rfl) rfl rfl fun F hX => ?_
  repeat (first | refine gG ?_ | refine zAl (fun _ => ?_) | refine zBf ?_)
  refine zCall (h1) ?_
  rintro _ rfl
  repeat (first | refine gG ?_ | refine zAl (fun _ => ?_) | refine zBx (fun _ => ?_))
  refine zCall (h2) ?_
  rintro _ rfl
  repeat (first | refine gG ?_ | refine zAl (fun _ => ?_) | refine zBx (fun _ => ?_))
  refine zCall (h0) ?_
  rintro _ rfl
  repeat (first | refine gG ?_ | refine zAl (fun _ => ?_) | refine zBx (fun _ => ?_))
  refine zCall (h3) ?_
  rintro _ rfl
  repeat (first | refine gG ?_ | refine zAl (fun _ => ?_) | refine zBx (fun _ => ?_))
  refine zCall (h4) ?_
  rintro _ ⟨q, rfl⟩
  cases q
  · repeat (first | refine gG ?_ | refine zAl (fun _ => ?_) | refine zBx (fun _ => ?_))
    first | refine zR ?_ | refine zQ ?_
    rfl
  · repeat (first | refine gG ?_ | refine zAl (fun _ => ?_) | refine zBx (fun _ => ?_))
    refine zCall (h5) ?_
    rintro _ rfl
    repeat (first | refine gG ?_ | refine zAl (fun _ => ?_) | refine zBx (fun _ => ?_))
    refine zCall (h6) ?_
    rintro _ rfl
    repeat (first | refine gG ?_ | refine zAl (fun _ => ?_) | refine zBx (fun _ => ?_))
    refine ac_draw [1, 1, 1, 1, 1, 1, 1, 1, 1, 1, 1, 1, 1, 1, 1, 1] [0, 1, 2, 3, 4, 5, 6, 7, 8, 9, 10, 11, 12, 13, 14, 15] (by kernel_rfl) (by kernel_rfl) ?_
    refine gW ?_
    apply w_q; (focus exact rfl); (focus exact rfl); focus (intro _; (refine lo_call h7 rfl (by repeat (first | exact rzs_nil | apply rzs_cons | exact rz_c | exact rz_nil rfl | apply rz_agg | exact rz_own rfl | apply rz_fn | exact rz_ptr rfl | apply rz_tup)) ?_; rintro _ rfl); exact det_refl)
    refine gW ?_
    apply w_q; (focus exact rfl); (focus exact rfl); focus (intro _; (refine lo_call h8 rfl (by repeat (first | exact rzs_nil | apply rzs_cons | exact rz_c | exact rz_nil rfl | apply rz_agg | exact rz_own rfl | apply rz_fn | exact rz_ptr rfl | apply rz_tup)) ?_; rintro _ rfl); exact det_refl)
    refine gW ?_
    try (first | (apply w_un; (focus exact rfl); (focus exact rfl); (focus exact rfl); (focus exact rfl)) | (apply w_no; (focus exact rfl); (focus exact rfl); (focus exact rfl); (focus exact rfl); focus (first | rfl | assumption | exact neg_t (by assumption) | exact neg_f (by assumption))) | (apply w_qg; (focus exact rfl); (focus exact rfl); (focus exact rfl); (focus exact rfl); (focus (first | rfl | assumption | exact neg_t (by assumption) | exact neg_f (by assumption))); (focus (intro _; (refine lo_call h9 rfl (by repeat (first | exact rzs_nil | apply rzs_cons | exact rz_c | exact rz_nil rfl | apply rz_agg | exact rz_own rfl | apply rz_fn | exact rz_ptr rfl | apply rz_tup)) ?_; rintro _ rfl); exact det_refl))))
    try refine gW ?_
    refine w_nil ?_
    repeat (first | refine gG ?_ | refine zAl (fun _ => ?_) | refine zBx (fun _ => ?_))
    first | refine zR ?_ | refine zQ ?_
    simp only [e3]; rfl
end Go.Proofs.Ythgackidonocpaa
namespace Go.Proofs.Ythgackidonocpaa
open Go.ChangeShapes Go.WideShapes Go.ChangeAt Go.RowKit Go.Deep
section
variable {H : Type} {enc : TypeId × Value → H} {P : Program} {w : World} {base : Nat} {spare : Nat → Bool} {held : Bool}
theorem bulk_one (d : DataW H) : 1 ≤ Rows.uptoBulk d := by
  cases d with
  | lit l => cases l <;> simp [Rows.uptoBulk]
  | _ => simp [Rows.uptoBulk]
end
end Go.Proofs.Ythgackidonocpaa
namespace Go.Proofs.Ythgackidonocpaa
open Go.ChangeShapes Go.WideShapes Go.ChangeAt Go.RowKit
theorem own : ownKnob Try.prog.godebug = none := by kernel_rfl
theorem laidOut : laidOutB Try.prog = true := by kernel_rfl
section
variable {H : Type} {enc : TypeId × Value → H}
theorem trodAll_below {P : Program} (hl : laidOutB P = true) {W W' : World} (hb : Below W.heap.size W W') (ts : List TypeId) : ∀ (vs : List Value) (ds : List (DataW H)) (ps : List MemPlace),
    (ts.all fun t => P.readableRec t && decide (t < P.types.size)) = true → DataW.TrodAll enc P W 0 (fun _ => true) true ts vs ds ps → (∀ x ∈ ps, x.block < W.heap.size) →
    DataW.TrodAll enc P W' 0 (fun b => decide (b < W.heap.size)) true ts vs ds ps := by
  induction ts with
  | nil =>
    intro vs ds ps _ h _
    obtain ⟨rfl, rfl, rfl⟩ := trodAll_nil h
    rfl
  | cons t ts ih =>
    intro vs ds ps hr h hlt
    obtain ⟨v, vs', d, ds', p, q, rfl, rfl, rfl, h0, h1⟩ := trodAll_cons h
    simp only [List.all_cons, Bool.and_eq_true, decide_eq_true_eq] at hr
    refine ⟨p, q, Below.trod hl hr.1.1 hr.1.2 h0 hb fun x hx => hlt x (List.mem_append_left _ hx), ?_, rfl⟩
    exact ih vs' ds' q hr.2 h1 fun x hx => hlt x (List.mem_append_right _ hx)
theorem law_post {f : Func} {s : ChangeSpec} {W W' : World} {args : Array Value} {ds gs : List (DataW H)} {before : List MemPlace}
    (hW : DataW.Whole enc Try.prog f.params.toList s.vars false W args.toList ds gs before) (hv : s.vars = []) (hrt : f.resultTypes = #[4])
    (hr : (f.params.toList.all fun t => Try.prog.readableRec t && decide (t < Try.prog.types.size)) = true)
    (hres : (s.fn H (ds ++ gs)).results = [.lit (.bool true)]) (hargs : (s.fn H (ds ++ gs)).args = ds) (hvars : (s.fn H (ds ++ gs)).vars = []) (hb : Below W.heap.size W W') :
    s.post enc Try.prog f false true false false W args (.bool true) W' := by
  have hlt : ∀ p ∈ before, p.block < W.heap.size := fun p hp => hW.lt p hp
  have hW' := hW
  obtain ⟨p, q, hA, hV, rfl, _, _⟩ := hW'
  rw [hv] at hV
  obtain ⟨rfl, rfl⟩ := trodVars_none hV
  rw [List.append_nil] at hlt
  refine ⟨ds, [], _, [], p, [], hW, ?_, ?_, ?_, hb.frame _ |> World.keptBut_mono (fun x hx => ⟨hx, ?_⟩), fun h => by cases h⟩
  · rw [hrt, hres]
    exact trodAll_mk1 (shut_bool Try.underlying4 true)
  · rw [hargs]
    exact trodAll_below laidOut hb _ _ _ _ hr hA hlt
  · rw [hvars, hv]
    rfl
  · rw [List.append_nil] at hx
    exact .inr (.inl hx)
end
end Go.Proofs.Ythgackidonocpaa
namespace Go.Proofs.Ythgackidonocpaa
open Go.ChangeShapes Go.WideShapes Go.ChangeAt Go.RowKit Go.Deep
/-- all memory of a world -/
def memOf (w : World) : Mm := frz (fun _ => none) 0 w
theorem memOf_ok (w : World) : MemOk (memOf w) w := frz_ok (fun p v h => by cases h) 0
theorem memOf_at {w : World} {p : Addr} {v : Value} (h : w.cell? p = some v) (h1 : v.oneCell' = true) : memOf w p = some v := frz_new rfl (Nat.zero_le _) h h1
section
variable {H : Type} {enc : TypeId × Value → H} {P : Program} {w : World} {base : Nat} {spare : Nat → Bool} {held : Bool}
def Opens (enc : TypeId × Value → H) (P : Program) (w : World) (base : Nat) (spare : Nat → Bool) (held : Bool) (t : TypeId) {α : Type} (f : α → List T) (μ : α → Nat) (fuel : Nat) : Prop :=
  ∀ (cs : List Value) (x : DataW H × List MemPlace), DataW.trod enc P w base spare held fuel t cs = some x → ∃ a, RTs (memOf w) (f a) cs ∧ OneAll cs ∧ μ a ≤ Rows.uptoBulk x.1
theorem sum_le {α : Type} (μ : α → Nat) : ∀ (l : List α) (ds : List (DataW H)), l.length = ds.length → (∀ (i : Nat) (a : α) (d : DataW H), l[i]? = some a → ds[i]? = some d → μ a ≤ Rows.uptoBulk d) → (l.map μ).sum ≤ Rows.uptoBulkAll ds
  | [], [], _, _ => by simp [Rows.uptoBulkAll]
  | a :: l, d :: ds, hl, h => by
    have h1 := h 0 a d rfl rfl
    have h2 := sum_le μ l ds (by simpa using hl) fun i a d ha hd => h (i + 1) a d (by simpa using ha) (by simpa using hd)
    simp only [List.map_cons, List.sum_cons, Rows.uptoBulkAll]
    omega
  | [], _ :: _, hl, _ => by simp at hl
  | _ :: _, [], hl, _ => by simp at hl
theorem snoc_ind {α : Type} {p : List α → Prop} (h0 : p []) (h1 : ∀ l x, p l → p (l ++ [x])) (l : List α) : p l := by
  have : ∀ n (l : List α), l.length = n → p l := by
    intro n
    induction n with
    | zero => intro l hl; rw [List.eq_nil_of_length_eq_zero hl]; exact h0
    | succ n ih =>
      intro l hl
      have hne : l ≠ [] := fun e => by rw [e] at hl; cases hl
      rw [← List.dropLast_concat_getLast hne]
      exact h1 _ _ (ih _ (by simp [hl]))
  exact this l.length l rfl
theorem rows_of {α : Type} (f : α → List T) (sz : Nat) (hf : ∀ a, (f a).length = sz) {a : Addr} : ∀ (l : List α) (C : Nat → List Value), (∀ (i : Nat) (x : α), l[i]? = some x → RTs (memOf w) (f x) (C i) ∧ OneAll (C i) ∧ ∀ j u, (C i)[j]? = some u → w.cell? (a.add (i * sz + j)) = some u) →
    ∃ xs : List Value, xs.length = l.length * sz ∧ At (memOf w) a xs ∧ RTs (memOf w) (l.flatMap f) xs := by
  intro l
  induction l using snoc_ind with
  | h0 => exact fun _ _ => ⟨[], by simp, fun j x h => by simp at h, by simp [RTs]⟩
  | h1 l x ih =>
    intro C h
    obtain ⟨xs, h1, h2, h3⟩ := ih C fun i y hy => h i y (by rw [List.getElem?_append_left (List.getElem?_eq_some_iff.1 hy).1]; exact hy)
    obtain ⟨g1, g2, g3⟩ := h l.length x (by simp)
    have hcl := g1.len
    rw [hf] at hcl
    refine ⟨xs ++ C l.length, by simp [h1, hcl, Nat.add_mul], fun j u hu => ?_, ?_⟩
    · rw [List.getElem?_append] at hu
      split at hu
      · exact h2 j u hu
      · have := g3 _ u hu
        rw [show l.length * sz + (j - xs.length) = j by omega] at this
        exact memOf_at this (g2 u (List.mem_of_getElem? hu))
    · rw [List.flatMap_append]
      refine h3.app ?_
      simpa using g1
theorem opens_slice {α : Type} [Inhabited α] {t e : TypeId} (f : α → List T) (μ : α → Nat) (sz : Nat) (hsz : 0 < sz) (hf : ∀ a, (f a).length = sz) {fuel : Nat} (ht : P.underlying t = some (.slice e)) (hC : P.cellsOf e = sz)
    (hel : ∀ n, n < fuel → Opens enc P w base spare held e f μ n) : Opens enc P w base spare held t (fun l : List α => [.row l.length sz (l.flatMap f)]) (fun l => (l.map μ).sum + 1) fuel := by
  intro cs x h
  rcases DataW.trod_slice ht h with ⟨rfl, rfl⟩ | ⟨a, len, cap, elems, rest, n, hn, rfl, rfl, hb, hl, hm, hlen, hi, _, _⟩
  · refine ⟨[], ?_, fun u hu => by simp at hu; subst hu; rfl, by simp [Rows.uptoBulk]⟩
    simp only [RTs]
    exact ⟨_, _, rfl, rt_nil hsz (by simp only [RT]), rfl⟩
  · rw [hC] at hi
    have hv : ∀ i, i < len → ∃ p : α × List Value, (p.2.length = sz ∧ ∀ j u, p.2[j]? = some u → w.cell? (a.add (i * sz + j)) = some u) ∧ RTs (memOf w) (f p.1) p.2 ∧ OneAll p.2 ∧ ∀ y, elems[i]? = some y → μ p.1 ≤ Rows.uptoBulk y.1 := by
      intro i hil
      have hk := hi i hil
      rw [List.getElem?_eq_getElem (by omega)] at hk
      obtain ⟨cs', h1, h2⟩ := Option.bind_eq_some_iff.1 hk
      obtain ⟨el, h3, h4, h5⟩ := hel n (by omega) _ _ h2
      obtain ⟨_, hlen', hcell⟩ := World.cells?_some h1
      refine ⟨(el, cs'), ⟨hlen', fun j u hu => ?_⟩, h3, h4, fun y hy => ?_⟩
      · have hj : j < sz := by rw [← hlen']; exact (List.getElem?_eq_some_iff.1 hu).1
        rw [← hu, ← hcell j hj, add_add']
      · rw [List.getElem?_eq_getElem (by omega)] at hy
        injection hy with hy
        rw [← hy]; exact h5
    obtain ⟨G, hG⟩ := choose_lt (α := α × List Value) hv
    obtain ⟨xs, g1, g2, g3⟩ := rows_of (w := w) (a := a) f sz hf ((List.range len).map fun i => (G i).1) (fun i => (G i).2) (fun i x hx => by
      have hil : i < len := by have := (List.getElem?_eq_some_iff.1 hx).1; simpa using this
      simp [hil] at hx
      obtain ⟨k1, k2, k3, _⟩ := hG i hil
      rw [← hx]
      exact ⟨k2, k3, k1.2⟩)
    refine ⟨(List.range len).map fun i => (G i).1, ?_, fun u hu => by simp at hu; subst hu; rfl, ?_⟩
    · simp only [RTs]
      refine ⟨_, _, rfl, ?_, rfl⟩
      simp only [RT]
      exact ⟨some a, cap, xs, by simp, by simpa using hl, by simp; omega, hsz, g1, fun _ => ⟨a, rfl, g2⟩, g3⟩
    · have := sum_le μ ((List.range len).map fun i => (G i).1) (elems.map (·.1)) (by simp [hlen]) (fun i y d hy hd => by
        have hil : i < len := by have := (List.getElem?_eq_some_iff.1 hy).1; simpa using this
        simp [hil] at hy
        rw [List.getElem?_map] at hd
        obtain ⟨z, hz, rfl⟩ := Option.map_eq_some_iff.1 hd
        rw [← hy]
        exact (hG i hil).2.2.2 z hz)
      simp only [Rows.uptoBulk]
      omega
end
/-- from a walk to the call: every law that takes trees and tells true -/
theorem law_call {P : Program} {f : FuncId} {ts : List T} {vs : List Value} {W : World} (h : AF P f ts (· = .lit (.bool true))) (hv : RTs (memOf W) ts vs) : Calls P f vs.toArray W fun e W' => e = .returned (.bool true) ∧ Below W.heap.size W W' :=
  (h.2 (memOf W) W vs (memOf_ok W) hv).mono fun e w' ⟨v, r, M', he, hr, _, _, hrt, hb⟩ => by
    subst hr
    simp only [RT] at hrt
    rw [he, hrt]
    exact ⟨rfl, hb⟩
end Go.Proofs.Ythgackidonocpaa
namespace Go.Proofs.Ythgackidonocpaa
open Go.ChangeShapes Go.WideShapes Go.ChangeAt Go.RowKit Go.Deep
theorem listN4 {α : Type} {l : List α} (h : l.length = 4) : ∃ a b c d, l = [a, b, c, d] := match l, h with | [a, b, c, d], _ => ⟨a, b, c, d, rfl⟩
theorem rts_seg {M : Mm} {ts us : List T} {cs : List Value} {o c : Nat} (h : RTs M ts ((cs.drop o).take c)) (h' : RTs M us (cs.drop (o + c))) : RTs M (ts ++ us) (cs.drop o) := by
  have := h.app h'
  rwa [← List.drop_drop, List.take_append_drop] at this
theorem rts_end {M : Mm} {cs : List Value} {o : Nat} (h : cs.length = o) : RTs M [] (cs.drop o) := by rw [← h, List.drop_length]; simp [RTs]
theorem one_seg {cs : List Value} {o c : Nat} (h : OneAll ((cs.drop o).take c)) (h' : OneAll (cs.drop (o + c))) : OneAll (cs.drop o) := by
  have := h.app h'
  rwa [← List.drop_drop, List.take_append_drop] at this
theorem one_end {cs : List Value} {o : Nat} (h : cs.length = o) : OneAll (cs.drop o) := by rw [← h, List.drop_length]; intro x hx; simp at hx
instance (n : Int) : Decidable (inI n) := by unfold inI; infer_instance
instance : Inhabited V := ⟨.mk 0 0 ⟨#[]⟩ []⟩
/-- a number, heavy where it is out of range -/
def far (n : Int) : Nat := if inI n then 1 else 1099511627776
mutual
def V.mass : V → Nat
  | .mk k n t l => far k + far n + t.size + V.masses l
def V.masses : List V → Nat
  | [] => 0
  | v :: r => v.mass + V.masses r
end
theorem far_in {n : Int} (h : far n ≤ 1048576) : inI n := by
  unfold far at h
  split at h
  · assumption
  · omega
theorem far_pos (n : Int) : 1 ≤ far n := by unfold far; split <;> omega
mutual
theorem V.mass_ok : ∀ v : V, v.mass ≤ 1048576 → v.ok ∧ v.size + v.txt ≤ v.mass
  | .mk k n t l, h => by
    simp only [V.mass] at h
    have h1 := far_pos n
    have h4 := far_pos k
    have h2 := V.masses_ok l (by omega)
    have h3 : inI n := far_in (by omega)
    simp only [V.ok, V.size, V.txt, V.mass]
    exact ⟨⟨h3, h2.1⟩, by omega⟩
theorem V.masses_ok : ∀ l : List V, V.masses l ≤ 1048576 → V.oks l ∧ V.sizes l + V.txts l ≤ V.masses l
  | [], _ => by simp [V.oks, V.sizes, V.txts]
  | v :: l, h => by
    simp only [V.masses] at h
    have h1 := V.mass_ok v (by omega)
    have h2 := V.masses_ok l (by omega)
    simp only [V.oks, V.sizes, V.txts, V.masses]
    exact ⟨⟨h1.1, h2.1⟩, by omega⟩
end
theorem V.masses_sum : ∀ l : List V, V.masses l = (l.map V.mass).sum
  | [] => rfl
  | v :: l => by simp [V.masses, V.masses_sum l]
section
variable {H : Type} {enc : TypeId × Value → H} {P : Program} {w : World} {base : Nat} {spare : Nat → Bool} {held : Bool}
theorem opens_strz {t : TypeId} {fuel : Nat} (ht : P.underlying t = some .string) : Opens enc P w base spare held t (fun s : ByteArray => [.lit (.string s)]) (fun s => s.size + 1) fuel := by
  intro cs x h
  obtain ⟨i, rfl, rfl, _⟩ := DataW.trod_string ht h
  exact ⟨i, by simp [RTs, RT], fun u hu => by simp at hu; subst hu; rfl, by simp [Rows.uptoBulk]⟩
theorem opens_far {t : TypeId} {fuel : Nat} (ht : P.underlying t = some (.int .i64)) : Opens enc P w base spare held t (fun i : Int => [.lit (.int .i64 i)]) far fuel := by
  intro cs x h
  obtain ⟨i, rfl, rfl, hw⟩ := DataW.trod_int ht h
  have hin : inI i := by
    unfold inI
    simp [Lit.wf, IntKind.min, IntKind.max, IntKind.bits, IntKind.signed] at hw
    omega
  exact ⟨i, by simp [RTs, RT], fun u hu => by simp at hu; subst hu; rfl, by unfold far; rw [if_pos hin]; exact bulk_one _⟩
theorem cn_int : Try.prog.cellsOf 3 = 1 := by kernel_rfl
theorem cn_str : Try.prog.cellsOf 9 = 1 := by kernel_rfl
theorem cn_val : Try.prog.cellsOf 24 = 4 := by kernel_rfl
theorem cn_vals : Try.prog.cellsOf 22 = 1 := by kernel_rfl
theorem opensV : ∀ fuel, Opens enc Try.prog w base spare held 24 V.ts V.mass fuel := by
  intro fuel
  induction fuel using Nat.strongRecOn with
  | _ fuel ih =>
    intro cs x h
    obtain ⟨ys, n, hn, rfl, hlen, hyl, hf⟩ := DataW.trod_struct Try.underlying24 h
    rw [cn_val] at hlen
    obtain ⟨y0, y1, y2, y3, rfl⟩ := listN4 hyl
    have f0 : DataW.trod enc Try.prog w base spare held n 3 ((cs.drop 0).take (Try.prog.cellsOf 3)) = some y0 := hf 0 _ rfl
    have f1 : DataW.trod enc Try.prog w base spare held n 3 ((cs.drop 1).take (Try.prog.cellsOf 3)) = some y1 := hf 1 _ rfl
    have f2 : DataW.trod enc Try.prog w base spare held n 9 ((cs.drop 2).take (Try.prog.cellsOf 9)) = some y2 := hf 2 _ rfl
    have f3 : DataW.trod enc Try.prog w base spare held n 22 ((cs.drop 3).take (Try.prog.cellsOf 22)) = some y3 := hf 3 _ rfl
    rw [cn_int] at f0 f1
    rw [cn_str] at f2
    rw [cn_vals] at f3
    obtain ⟨a0, r0, o0, m0⟩ := opens_far Try.underlying3 _ _ f0
    obtain ⟨a1, r1, o1, m1⟩ := opens_far Try.underlying3 _ _ f1
    obtain ⟨a2, r2, o2, m2⟩ := opens_strz Try.underlying9 _ _ f2
    obtain ⟨a3, r3, o3, m3⟩ := opens_slice V.ts V.mass 4 (by omega) V.ts_len Try.underlying22 cn_val (fun m hm => ih m (by omega)) _ _ f3
    refine ⟨.mk a0 a1 a2 a3, ?_, ?_, ?_⟩
    · have := rts_seg r0 (rts_seg r1 (rts_seg r2 (rts_seg r3 (rts_end hlen))))
      simpa [V.ts, V.all_eq] using this
    · have := one_seg o0 (one_seg o1 (one_seg o2 (one_seg o3 (one_end hlen))))
      simpa using this
    · simp only [V.mass, V.masses_sum, List.map_cons, List.map_nil, Rows.uptoBulk, Rows.uptoBulkAll] at m0 m1 m2 m3 ⊢
      omega
end
end Go.Proofs.Ythgackidonocpaa
namespace Go.Proofs.Ythgackidonocpaa
open Go.ChangeShapes Go.WideShapes Go.ChangeAt Go.RowKit Go.Deep
theorem listQ2 {α : Type} {l : List α} (h : l.length = 2) : ∃ a b, l = [a, b] := match l, h with | [a, b], _ => ⟨a, b, rfl⟩
theorem listQ3 {α : Type} {l : List α} (h : l.length = 3) : ∃ a b c, l = [a, b, c] := match l, h with | [a, b, c], _ => ⟨a, b, c, rfl⟩
theorem listQ6 {α : Type} {l : List α} (h : l.length = 6) : ∃ a b c d e f, l = [a, b, c, d, e, f] := match l, h with | [a, b, c, d, e, f], _ => ⟨a, b, c, d, e, f, rfl⟩
instance : Inhabited Inp := ⟨⟨0, V.zero⟩⟩
def Inp.mass (x : Inp) : Nat := far x.kind + x.val.mass
def Sav.cells (s : Sav) : List T := [.lit (.string s.actor), V.row s.state, inpRow s.inputs]
def Sav.mass (s : Sav) : Nat := s.actor.size + ((s.state.map V.mass).sum + (s.inputs.map Inp.mass).sum)
section
variable {H : Type} {enc : TypeId × Value → H} {w : World} {base : Nat} {spare : Nat → Bool} {held : Bool}
theorem cn_inp : Try.prog.cellsOf 163 = 5 := by kernel_rfl
theorem cn_inps : Try.prog.cellsOf 45 = 1 := by kernel_rfl
theorem cn_sav : Try.prog.cellsOf 47 = 3 := by kernel_rfl
theorem opensInp (fuel : Nat) : Opens enc Try.prog w base spare held 163 Inp.ts Inp.mass fuel := by
  intro cs x h
  obtain ⟨ys, n, hn, rfl, hlen, hyl, hf⟩ := DataW.trod_struct Try.underlying163 h
  rw [cn_inp] at hlen
  obtain ⟨y0, y1, rfl⟩ := listQ2 hyl
  have f0 : DataW.trod enc Try.prog w base spare held n 3 ((cs.drop 0).take (Try.prog.cellsOf 3)) = some y0 := hf 0 _ rfl
  rw [cn_int] at f0
  have f1 : DataW.trod enc Try.prog w base spare held n 24 ((cs.drop 1).take (Try.prog.cellsOf 24)) = some y1 := hf 1 _ rfl
  rw [cn_val] at f1
  obtain ⟨a0, r0, o0, m0⟩ := opens_far Try.underlying3 _ _ f0
  obtain ⟨a1, r1, o1, m1⟩ := opensV _ _ _ f1
  refine ⟨⟨a0, a1⟩, ?_, ?_, ?_⟩
  · have := rts_seg r0 (rts_seg r1 (rts_end hlen))
    simpa [Inp.ts, Inp.mass] using this
  · have := one_seg o0 (one_seg o1 (one_end hlen))
    simpa using this
  · simp only [Inp.ts, Inp.mass, List.map_cons, List.map_nil, Rows.uptoBulk, Rows.uptoBulkAll] at m0 m1 ⊢
    omega
theorem opensVs (fuel : Nat) : Opens enc Try.prog w base spare held 22 (fun l : List V => [V.row l]) (fun l => (l.map V.mass).sum + 1) fuel := by
  intro cs x h
  obtain ⟨l, h1, h2, h3⟩ := opens_slice V.ts V.mass 4 (by omega) V.ts_len Try.underlying22 cn_val (fun m _ => opensV m) cs x h
  exact ⟨l, by simpa [V.row, V.all_eq] using h1, h2, h3⟩
theorem opensIs (fuel : Nat) : Opens enc Try.prog w base spare held 45 (fun l : List Inp => [inpRow l]) (fun l => (l.map Inp.mass).sum + 1) fuel := by
  intro cs x h
  obtain ⟨l, h1, h2, h3⟩ := opens_slice Inp.ts Inp.mass 5 (by omega) Inp.ts_len Try.underlying45 cn_inp (fun m _ => opensInp m) cs x h
  exact ⟨l, by simpa [inpRow] using h1, h2, h3⟩
theorem opensSav (fuel : Nat) : Opens enc Try.prog w base spare held 47 Sav.cells Sav.mass fuel := by
  intro cs x h
  obtain ⟨ys, n, hn, rfl, hlen, hyl, hf⟩ := DataW.trod_struct Try.underlying47 h
  rw [cn_sav] at hlen
  obtain ⟨y0, y1, y2, rfl⟩ := listQ3 hyl
  have f0 : DataW.trod enc Try.prog w base spare held n 9 ((cs.drop 0).take (Try.prog.cellsOf 9)) = some y0 := hf 0 _ rfl
  rw [cn_str] at f0
  have f1 : DataW.trod enc Try.prog w base spare held n 22 ((cs.drop 1).take (Try.prog.cellsOf 22)) = some y1 := hf 1 _ rfl
  rw [cn_vals] at f1
  have f2 : DataW.trod enc Try.prog w base spare held n 45 ((cs.drop 2).take (Try.prog.cellsOf 45)) = some y2 := hf 2 _ rfl
  rw [cn_inps] at f2
  obtain ⟨a0, r0, o0, m0⟩ := opens_strz Try.underlying9 _ _ f0
  obtain ⟨a1, r1, o1, m1⟩ := opensVs _ _ _ f1
  obtain ⟨a2, r2, o2, m2⟩ := opensIs _ _ _ f2
  refine ⟨⟨a0, a1, a2⟩, ?_, ?_, ?_⟩
  · have := rts_seg r0 (rts_seg r1 (rts_seg r2 (rts_end hlen)))
    simpa [Sav.cells, Sav.mass] using this
  · have := one_seg o0 (one_seg o1 (one_seg o2 (one_end hlen)))
    simpa using this
  · simp only [Sav.cells, Sav.mass, List.map_cons, List.map_nil, Rows.uptoBulk, Rows.uptoBulkAll] at m0 m1 m2 ⊢
    omega
end
theorem sum_mem {α : Type} (f : α → Nat) : ∀ {l : List α} {x : α}, x ∈ l → f x ≤ (l.map f).sum
  | a :: l, x, h => by
    rcases List.mem_cons.1 h with rfl | h
    · simp only [List.map_cons, List.sum_cons]; omega
    · have := sum_mem f h; simp only [List.map_cons, List.sum_cons]; omega
theorem V.mass_tiny {v : V} (h : v.mass ≤ 1048576) : v.tiny := by
  obtain ⟨h1, h2⟩ := V.mass_ok v h
  have h3 := V.bytes_len v h1 (by omega) (by omega)
  exact ⟨h1, by omega, by omega⟩
theorem V.mass_pos (v : V) : 1 ≤ v.mass := by
  obtain ⟨k, n, t, l⟩ := v
  have := far_pos k
  simp only [V.mass]; omega
theorem sum_pos {α : Type} (f : α → Nat) (hf : ∀ x, 1 ≤ f x) : ∀ l : List α, l.length ≤ (l.map f).sum
  | [] => by simp
  | a :: l => by have := sum_pos f hf l; have := hf a; simp only [List.map_cons, List.sum_cons, List.length_cons]; omega
theorem Sav.mass_ok (s : Sav) (h : s.mass ≤ 1048576) : s.Small ∧ s.state.length ≤ 1048576 := by
  simp only [Sav.mass] at h
  have h1 := sum_pos V.mass V.mass_pos s.state
  refine ⟨⟨fun v hv => V.mass_tiny (by have := sum_mem V.mass hv; omega), fun x hx => V.mass_tiny (by have := sum_mem Inp.mass hx; simp only [Inp.mass] at this; omega), by omega⟩, by omega⟩
end Go.Proofs.Ythgackidonocpaa
namespace Go.Proofs.Ythgackidonocpaa
open Go.ChangeShapes Go.WideShapes Go.ChangeAt Go.RowKit Go.Deep
instance : Inhabited Lt := ⟨Lt.zero⟩
def Lt.mass : Lt → Nat
  | .mk k fm tt n t v => far k + far fm + far tt + far n + t.size + v.mass
theorem Lt.mass_tiny {x : Lt} (h : x.mass ≤ 1048576) : x.tiny := by
  obtain ⟨k, fm, tt, n, t, v⟩ := x
  simp only [Lt.mass] at h
  exact Lt.tiny_of (far_in (by omega)) (far_in (by omega)) (far_in (by omega)) (by omega) (V.mass_tiny (by omega))
def Par.mass (p : Par) : Nat := far p.ref + (p.sav.mass + ((p.box.map Lt.mass).sum + (far p.ticks + ((p.wat.map far).sum + (p.lnk.map far).sum))))
section
variable {H : Type} {enc : TypeId × Value → H} {w : World} {base : Nat} {spare : Nat → Bool} {held : Bool}
theorem cn_let : Try.prog.cellsOf 38 = 9 := by kernel_rfl
theorem cn_lets : Try.prog.cellsOf 55 = 1 := by kernel_rfl
theorem cn_ints : Try.prog.cellsOf 56 = 1 := by kernel_rfl
theorem cn_par : Try.prog.cellsOf 58 = 8 := by kernel_rfl
theorem opensL (fuel : Nat) : Opens enc Try.prog w base spare held 38 Lt.ts Lt.mass fuel := by
  intro cs x h
  obtain ⟨ys, n, hn, rfl, hlen, hyl, hf⟩ := DataW.trod_struct Try.underlying38 h
  rw [cn_let] at hlen
  obtain ⟨y0, y1, y2, y3, y4, y5, rfl⟩ := listQ6 hyl
  have f0 : DataW.trod enc Try.prog w base spare held n 3 ((cs.drop 0).take (Try.prog.cellsOf 3)) = some y0 := hf 0 _ rfl
  rw [cn_int] at f0
  have f1 : DataW.trod enc Try.prog w base spare held n 3 ((cs.drop 1).take (Try.prog.cellsOf 3)) = some y1 := hf 1 _ rfl
  rw [cn_int] at f1
  have f2 : DataW.trod enc Try.prog w base spare held n 3 ((cs.drop 2).take (Try.prog.cellsOf 3)) = some y2 := hf 2 _ rfl
  rw [cn_int] at f2
  have f3 : DataW.trod enc Try.prog w base spare held n 3 ((cs.drop 3).take (Try.prog.cellsOf 3)) = some y3 := hf 3 _ rfl
  rw [cn_int] at f3
  have f4 : DataW.trod enc Try.prog w base spare held n 9 ((cs.drop 4).take (Try.prog.cellsOf 9)) = some y4 := hf 4 _ rfl
  rw [cn_str] at f4
  have f5 : DataW.trod enc Try.prog w base spare held n 24 ((cs.drop 5).take (Try.prog.cellsOf 24)) = some y5 := hf 5 _ rfl
  rw [cn_val] at f5
  obtain ⟨a0, r0, o0, m0⟩ := opens_far Try.underlying3 _ _ f0
  obtain ⟨a1, r1, o1, m1⟩ := opens_far Try.underlying3 _ _ f1
  obtain ⟨a2, r2, o2, m2⟩ := opens_far Try.underlying3 _ _ f2
  obtain ⟨a3, r3, o3, m3⟩ := opens_far Try.underlying3 _ _ f3
  obtain ⟨a4, r4, o4, m4⟩ := opens_strz Try.underlying9 _ _ f4
  obtain ⟨a5, r5, o5, m5⟩ := opensV _ _ _ f5
  refine ⟨.mk a0 a1 a2 a3 a4 a5, ?_, ?_, ?_⟩
  · have := rts_seg r0 (rts_seg r1 (rts_seg r2 (rts_seg r3 (rts_seg r4 (rts_seg r5 (rts_end hlen))))))
    simpa [Lt.ts, Lt.mass] using this
  · have := one_seg o0 (one_seg o1 (one_seg o2 (one_seg o3 (one_seg o4 (one_seg o5 (one_end hlen))))))
    simpa using this
  · simp only [Lt.ts, Lt.mass, List.map_cons, List.map_nil, Rows.uptoBulk, Rows.uptoBulkAll] at m0 m1 m2 m3 m4 m5 ⊢
    omega
theorem opensLs (fuel : Nat) : Opens enc Try.prog w base spare held 55 (fun l : List Lt => [letRow l]) (fun l => (l.map Lt.mass).sum + 1) fuel := by
  intro cs x h
  obtain ⟨l, h1, h2, h3⟩ := opens_slice Lt.ts Lt.mass 9 (by omega) Lt.ts_len Try.underlying55 cn_let (fun m _ => opensL m) cs x h
  exact ⟨l, by simpa [letRow] using h1, h2, h3⟩
theorem opensNs (fuel : Nat) : Opens enc Try.prog w base spare held 56 (fun l : List Int => [intRow l]) (fun l => (l.map far).sum + 1) fuel := by
  intro cs x h
  obtain ⟨l, h1, h2, h3⟩ := opens_slice intTs far 1 (by omega) (fun _ => rfl) Try.underlying56 cn_int (fun m _ => opens_far Try.underlying3) cs x h
  exact ⟨l, by simpa [intRow] using h1, h2, h3⟩
theorem opensPar (fuel : Nat) : Opens enc Try.prog w base spare held 58 Par.ts Par.mass fuel := by
  intro cs x h
  obtain ⟨ys, n, hn, rfl, hlen, hyl, hf⟩ := DataW.trod_struct Try.underlying58 h
  rw [cn_par] at hlen
  obtain ⟨y0, y1, y2, y3, y4, y5, rfl⟩ := listQ6 hyl
  have f0 : DataW.trod enc Try.prog w base spare held n 3 ((cs.drop 0).take (Try.prog.cellsOf 3)) = some y0 := hf 0 _ rfl
  rw [cn_int] at f0
  have f1 : DataW.trod enc Try.prog w base spare held n 47 ((cs.drop 1).take (Try.prog.cellsOf 47)) = some y1 := hf 1 _ rfl
  rw [cn_sav] at f1
  have f2 : DataW.trod enc Try.prog w base spare held n 55 ((cs.drop 4).take (Try.prog.cellsOf 55)) = some y2 := hf 2 _ rfl
  rw [cn_lets] at f2
  have f3 : DataW.trod enc Try.prog w base spare held n 3 ((cs.drop 5).take (Try.prog.cellsOf 3)) = some y3 := hf 3 _ rfl
  rw [cn_int] at f3
  have f4 : DataW.trod enc Try.prog w base spare held n 56 ((cs.drop 6).take (Try.prog.cellsOf 56)) = some y4 := hf 4 _ rfl
  rw [cn_ints] at f4
  have f5 : DataW.trod enc Try.prog w base spare held n 56 ((cs.drop 7).take (Try.prog.cellsOf 56)) = some y5 := hf 5 _ rfl
  rw [cn_ints] at f5
  obtain ⟨a0, r0, o0, m0⟩ := opens_far Try.underlying3 _ _ f0
  obtain ⟨a1, r1, o1, m1⟩ := opensSav _ _ _ f1
  obtain ⟨a2, r2, o2, m2⟩ := opensLs _ _ _ f2
  obtain ⟨a3, r3, o3, m3⟩ := opens_far Try.underlying3 _ _ f3
  obtain ⟨a4, r4, o4, m4⟩ := opensNs _ _ _ f4
  obtain ⟨a5, r5, o5, m5⟩ := opensNs _ _ _ f5
  refine ⟨⟨a0, a1, a2, a3, a4, a5⟩, ?_, ?_, ?_⟩
  · have := rts_seg r0 (rts_seg r1 (rts_seg r2 (rts_seg r3 (rts_seg r4 (rts_seg r5 (rts_end hlen))))))
    simpa [Par.ts, Par.mass, Sav.cells] using this
  · have := one_seg o0 (one_seg o1 (one_seg o2 (one_seg o3 (one_seg o4 (one_seg o5 (one_end hlen))))))
    simpa using this
  · simp only [Par.ts, Par.mass, Sav.cells, List.map_cons, List.map_nil, Rows.uptoBulk, Rows.uptoBulkAll] at m0 m1 m2 m3 m4 m5 ⊢
    omega
end
theorem Par.mass_ok (p : Par) (h : p.mass ≤ 1048576) : p.Small ∧ p.sav.state.length ≤ 1048576 := by
  simp only [Par.mass] at h
  obtain ⟨h1, h2⟩ := Sav.mass_ok p.sav (by omega)
  refine ⟨⟨h1, fun x hx => Lt.mass_tiny (by have := sum_mem Lt.mass hx; omega), far_in (by omega), far_in (by omega), fun n hn => far_in (by have := sum_mem far hn; omega), fun n hn => far_in (by have := sum_mem far hn; omega)⟩, h2⟩
end Go.Proofs.Ythgackidonocpaa
namespace Go.Proofs.Ythgackidonocpaa
open Go.ChangeShapes Go.WideShapes Go.ChangeAt Go.RowKit Go.Deep
section
variable {H : Type} {enc : TypeId × Value → H} {P : Program} {w : World} {base : Nat} {spare : Nat → Bool} {held : Bool}
instance : Inhabited UInt8 := ⟨0⟩
theorem opens_u8 {t : TypeId} {fuel : Nat} (ht : P.underlying t = some (.int .u8)) : Opens enc P w base spare held t (fun b : UInt8 => [bytT b]) (fun _ => 1) fuel := by
  intro cs x h
  obtain ⟨i, rfl, rfl, hw⟩ := DataW.trod_int ht h
  have hin : 0 ≤ i ∧ i < 256 := by
    simp [Lit.wf, IntKind.min, IntKind.max, IntKind.bits, IntKind.signed] at hw
    omega
  have hb : (((UInt8.ofNat i.toNat).toNat : Nat) : Int) = i := by
    rw [UInt8.toNat_ofNat', Nat.mod_eq_of_lt (by omega)]
    omega
  exact ⟨UInt8.ofNat i.toNat, by simp only [RTs, RT, bytT, hb]; exact ⟨_, _, rfl, rfl, rfl⟩, fun u hu => by simp at hu; subst hu; rfl, bulk_one _⟩
theorem flat_byt : ∀ l : List UInt8, (l.flatMap fun b => [bytT b]) = byts l
  | [] => rfl
  | b :: l => by simp [byts, flat_byt l]
theorem sum_one {α : Type} : ∀ l : List α, (l.map fun _ => 1).sum = l.length
  | [] => rfl
  | _ :: l => by simp only [List.map_cons, List.sum_cons, sum_one l, List.length_cons]; omega
theorem opensB (fuel : Nat) : Opens enc Try.prog w base spare held 27 (fun l : List UInt8 => [bytRow l]) (fun l => l.length + 1) fuel := by
  intro cs x h
  obtain ⟨l, h1, h2, h3⟩ := opens_slice (fun b : UInt8 => [bytT b]) (fun _ => 1) 1 (by omega) (fun _ => rfl) Try.underlying27 (by kernel_rfl) (fun m _ => opens_u8 Try.underlying5) cs x h
  dsimp only at h1 h3
  rw [flat_byt] at h1
  rw [sum_one] at h3
  exact ⟨l, h1, h2, h3⟩
end
end Go.Proofs.Ythgackidonocpaa
