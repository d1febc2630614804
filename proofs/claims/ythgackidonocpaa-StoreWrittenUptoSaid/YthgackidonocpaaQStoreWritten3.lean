/-
  Texts of this proof, part 3: Tsf Tqd Tlf TlwB Tqw Ab27 Tqf Tql Tud Ab28 Tuc Tuw Tuf Tub.
-/
import Derived.Test.YthgackidonocpaaQStoreWritten2
import Derived.Lib.MinMax
import Derived.MapKept
namespace Go.Proofs.Ythgackidonocpaa
open Go.RowKit
theorem size_lt1 (s : ByteArray) : decide (s = ⟨#[]⟩) = decide ((s.size : Int) < 1) := by
  by_cases h : s = ⟨#[]⟩
  · subst h; rfl
  · rw [decide_eq_false h, decide_eq_false]
    intro h1
    apply h
    have h2 : s.size = 0 := by omega
    obtain ⟨⟨l⟩⟩ := s
    have h3 : l.length = 0 := h2
    rw [List.eq_nil_of_length_eq_zero h3]
set_option maxRecDepth 100000 in
set_option maxHeartbeats 4000000 in
theorem savedFault_af (s : Sav) (hst : ∀ v ∈ s.state, v.size ≤ 1048576) (hin : ∀ x ∈ s.inputs, x.val.size ≤ 1048576) : AF Try.prog 37 [s.t] (· = .lit (.int .i64 s.check)) := by
  have k3 := @Sav.check_3 s
  have k2 := @Sav.check_2 s
  have kr := @Sav.check_r s
  obtain ⟨ac, st, l⟩ := s
  dsimp only at k3 k2 kr hst hin
  generalize hck : (Sav.mk ac st l).check = ck at *
  refine af_enter tok Try.func37 Try.ntmps37 Try.results37 rfl (by kernel_rfl) rfl rfl fun F hX => ?_
  have e0 : decide (ac = ⟨#[]⟩) = decide ((ac.size : Int) < 1) := size_lt1 ac
  cases d1 : decide ((ac.size : Int) < 1) <;> rw [d1] at e0
  rotate_left
  · repeat (first | refine gG ?_ | refine zN1 (fun hlen => ?_) | refine zN2 (fun hlen => ?_) | refine zAl (fun _ => ?_) | refine zBf ?_)
    first | refine zR ?_ | refine zQ ?_
    rw [k3 (by rw [d1]; rfl)]; rfl
  cases d2 : decide ((16 : Int) < (ac.size : Int))
  rotate_left
  · repeat (first | refine gG ?_ | refine zN1 (fun hlen => ?_) | refine zN2 (fun hlen => ?_) | refine zAl (fun _ => ?_) | refine zBf ?_)
    first | refine zR ?_ | refine zQ ?_
    rw [k3 (by rw [d1, d2]; rfl)]; rfl
  have j1 : (decide ((ac.size : Int) < 1) || decide ((16 : Int) < (ac.size : Int))) = false := by rw [d1, d2]; rfl
  cases d3 : decide ((6 : Int) < (st.length : Int))
  rotate_left
  · repeat (first | refine gG ?_ | refine zN1 (fun hlen => ?_) | refine zN2 (fun hlen => ?_) | refine zAl (fun _ => ?_) | refine zBf ?_)
    first | refine zR ?_ | refine zQ ?_
    rw [k2 j1 (by rw [d3]; rfl)]; rfl
  cases d4 : decide ((2000 : Int) < (l.length : Int))
  rotate_left
  · repeat (first | refine gG ?_ | refine zN1 (fun hlen => ?_) | refine zN2 (fun hlen => ?_) | refine zAl (fun _ => ?_) | refine zBf ?_)
    first | refine zR ?_ | refine zQ ?_
    rw [k2 j1 (by rw [d3, d4]; rfl)]; rfl
  have kr := kr j1 (by rw [d3, d4]; rfl)
  clear k3 k2 j1
  repeat (first | refine gG ?_ | refine zN1 (fun hlen => ?_) | refine zN2 (fun hlen => ?_) | refine zAl (fun _ => ?_) | refine zBf ?_)
  refine x_loop [2, 4, 5, 31, 32, 33, 34, 35, 36, 37, 38, 39, 40] (fun k : Nat => [(31, .c (.lit (.int .i64 k)))]) (fun _ => []) (fun k => k ≤ st.length ∧ ∀ x ∈ st.take k, V.check x = 0) (fun k => st.length - k) 0 ⟨Nat.zero_le _, by simp⟩ ⟨rfl, trivial⟩ rfl ?_
  rintro k ⟨hk, hz⟩
  repeat (first | refine gG ?_ | refine zN1 (fun hlen => ?_) | refine zN2 (fun hlen => ?_) | refine zAl (fun _ => ?_) | refine zBx (fun _ => ?_))
  refine x_cond rfl (fun h => ?_) (fun h => ?_)
  · have hk' : k < st.length := by simpa using h
    obtain ⟨a, ha⟩ := nth hk'
    have hs := valueFault_af a (hst a (List.mem_of_getElem? ha))
    have he := errs_at V.check hz ha
    have hsn := take_snoc (p := fun x => V.check x = 0) ha hz
    repeat (first | refine gG ?_ | refine zN1 (fun hlen => ?_) | refine zN2 (fun hlen => ?_) | refine zAl (fun _ => ?_) | refine zBx (fun _ => ?_))
    refine zIx (k) (hk') ?_
    repeat (first | refine gG ?_ | refine zN1 (fun hlen => ?_) | refine zN2 (fun hlen => ?_) | refine zAl (fun _ => ?_) | refine zBx (fun _ => ?_))
    refine zEl (V.at ha) (V.ts_len a) ?_
    generalize hca : a.check = ca at *
    obtain ⟨ka, na, ta, la⟩ := a
    repeat (first | refine gG ?_ | refine zN1 (fun hlen => ?_) | refine zN2 (fun hlen => ?_) | refine zAl (fun _ => ?_) | refine zBx (fun _ => ?_))
    refine zCall (hs) ?_
    rintro _ rfl
    cases c1 : decide (ca = 0)
    · have c0 : ¬ ca = 0 := of_decide_eq_false c1
      repeat (first | refine gG ?_ | refine zN1 (fun hlen => ?_) | refine zN2 (fun hlen => ?_) | refine zAl (fun _ => ?_) | refine zBx (fun _ => ?_))
      first | refine zR ?_ | refine zQ ?_
      rw [kr, he c0, if_neg c0]; rfl
    · have c0 : ca = 0 := of_decide_eq_true c1
      repeat (first | refine gG ?_ | refine zN1 (fun hlen => ?_) | refine zN2 (fun hlen => ?_) | refine zAl (fun _ => ?_) | refine zBx (fun _ => ?_))
      exact ⟨k + 1, ⟨hk', hsn c0⟩, by omega, x_wkd 0 ⟨rfl, trivial⟩ rfl (by repeat (first | exact ag_refl | refine ag_upd rfl ?_ | refine ag_at rfl rfl ?_))⟩
  · have hk' : k = st.length := by have : ¬ k < st.length := by simpa using h
                                   omega
    subst hk'
    rw [List.take_length] at hz
    rw [errs_all V.check hz, if_pos rfl] at kr
    repeat (first | refine gG ?_ | refine zN1 (fun hlen => ?_) | refine zN2 (fun hlen => ?_) | refine zAl (fun _ => ?_) | refine zBx (fun _ => ?_))
    refine x_loop [2, 7, 8, 44, 45, 46, 47, 48, 49, 50, 51, 52, 53, 54, 55, 56, 57, 58, 59, 60, 61, 62, 63, 64, 65, 66, 67, 68, 69, 70, 71, 72, 73, 74, 75, 76] (fun k : Nat => [(44, .c (.lit (.int .i64 k)))]) (fun _ => []) (fun k => k ≤ l.length ∧ ∀ x ∈ l.take k, Inp.check x = 0) (fun k => l.length - k) 0 ⟨Nat.zero_le _, by simp⟩ ⟨rfl, trivial⟩ rfl ?_
    rintro k ⟨hk, hz⟩
    repeat (first | refine gG ?_ | refine zN1 (fun hlen => ?_) | refine zN2 (fun hlen => ?_) | refine zAl (fun _ => ?_) | refine zBx (fun _ => ?_))
    refine x_cond rfl (fun h => ?_) (fun h => ?_)
    · have hk' : k < l.length := by simpa using h
      obtain ⟨a, ha⟩ := nth hk'
      have hs := valueFault_af a.val (hin a (List.mem_of_getElem? ha))
      have hz3 := none_af a.val
      have he := errs_at Inp.check hz ha
      have hsn := take_snoc (p := fun x => Inp.check x = 0) ha hz
      have kb := @Inp.check_bad a
      have k3 := @Inp.check_3 a
      have kv := @Inp.check_v a
      repeat (first | refine gG ?_ | refine zN1 (fun hlen => ?_) | refine zN2 (fun hlen => ?_) | refine zAl (fun _ => ?_) | refine zBx (fun _ => ?_))
      refine zIx (k) (hk') ?_
      repeat (first | refine gG ?_ | refine zN1 (fun hlen => ?_) | refine zN2 (fun hlen => ?_) | refine zAl (fun _ => ?_) | refine zBx (fun _ => ?_))
      refine zEl (flat_at Inp.ts 5 Inp.ts_len ha) (Inp.ts_len a) ?_
      obtain ⟨kd, v⟩ := a
      simp only [Inp.bad] at kb k3 kv
      dsimp only at hs hz3 kb k3 kv
      generalize (Inp.mk kd v).check = ca at *
      generalize v.check = cv at *
      generalize v.isZ = zv at *
      obtain ⟨ka, na, ta, la⟩ := v
      cases e1 : decide (kd < 1)
      rotate_left
      · have kb := kb (by rw [e1]; rfl)
        repeat (first | refine gG ?_ | refine zN1 (fun hlen => ?_) | refine zN2 (fun hlen => ?_) | refine zAl (fun _ => ?_) | refine zBx (fun _ => ?_))
        first | refine zR ?_ | refine zQ ?_
        rw [kr, he (by omega), kb]; rfl
      cases e2 : decide ((3 : Int) < kd)
      rotate_left
      · have kb := kb (by rw [e1, e2]; rfl)
        repeat (first | refine gG ?_ | refine zN1 (fun hlen => ?_) | refine zN2 (fun hlen => ?_) | refine zAl (fun _ => ?_) | refine zBx (fun _ => ?_))
        first | refine zR ?_ | refine zQ ?_
        rw [kr, he (by omega), kb]; rfl
      cases e3 : decide (kd = 3)
      · have e4 : decide (kd < 3) = true := decide_eq_true (by have := of_decide_eq_false e2; have := of_decide_eq_false e3; omega)
        have kv := kv (by rw [e1, e2, e3]; rfl) (of_decide_eq_false e3)
        repeat (first | refine gG ?_ | refine zN1 (fun hlen => ?_) | refine zN2 (fun hlen => ?_) | refine zAl (fun _ => ?_) | refine zBx (fun _ => ?_))
        refine zCall (hs) ?_
        rintro _ rfl
        cases c1 : decide (cv = 0)
        · have c0 : ¬ cv = 0 := of_decide_eq_false c1
          repeat (first | refine gG ?_ | refine zN1 (fun hlen => ?_) | refine zN2 (fun hlen => ?_) | refine zAl (fun _ => ?_) | refine zBx (fun _ => ?_))
          first | refine zR ?_ | refine zQ ?_
          rw [kr, he (by omega), kv]; rfl
        · have c0 : cv = 0 := of_decide_eq_true c1
          repeat (first | refine gG ?_ | refine zN1 (fun hlen => ?_) | refine zN2 (fun hlen => ?_) | refine zAl (fun _ => ?_) | refine zBx (fun _ => ?_))
          exact ⟨k + 1, ⟨hk', hsn (by omega)⟩, by omega, x_wkd 0 ⟨rfl, trivial⟩ rfl (by repeat (first | exact ag_refl | refine ag_upd rfl ?_ | refine ag_at rfl rfl ?_))⟩
      · have e4 : decide (kd < 3) = false := decide_eq_false (by have := of_decide_eq_true e3; omega)
        cases zv
        · have kb := kb (by rw [e1, e2, e3]; rfl)
          repeat (first | refine gG ?_ | refine zN1 (fun hlen => ?_) | refine zN2 (fun hlen => ?_) | refine zAl (fun _ => ?_) | refine zBx (fun _ => ?_))
          refine zCall (hz3) ?_
          rintro _ rfl
          repeat (first | refine gG ?_ | refine zN1 (fun hlen => ?_) | refine zN2 (fun hlen => ?_) | refine zAl (fun _ => ?_) | refine zBx (fun _ => ?_))
          first | refine zR ?_ | refine zQ ?_
          rw [kr, he (by omega), kb]; rfl
        · have k3 := k3 (by rw [e1, e2, e3]; rfl) (of_decide_eq_true e3)
          repeat (first | refine gG ?_ | refine zN1 (fun hlen => ?_) | refine zN2 (fun hlen => ?_) | refine zAl (fun _ => ?_) | refine zBx (fun _ => ?_))
          refine zCall (hz3) ?_
          rintro _ rfl
          repeat (first | refine gG ?_ | refine zN1 (fun hlen => ?_) | refine zN2 (fun hlen => ?_) | refine zAl (fun _ => ?_) | refine zBx (fun _ => ?_))
          exact ⟨k + 1, ⟨hk', hsn (by omega)⟩, by omega, x_wkd 0 ⟨rfl, trivial⟩ rfl (by repeat (first | exact ag_refl | refine ag_upd rfl ?_ | refine ag_at rfl rfl ?_))⟩
    · have hk' : k = l.length := by have : ¬ k < l.length := by simpa using h
                                    omega
      subst hk'
      rw [List.take_length] at hz
      rw [errs_all Inp.check hz] at kr
      repeat (first | refine gG ?_ | refine zN1 (fun hlen => ?_) | refine zN2 (fun hlen => ?_) | refine zAl (fun _ => ?_) | refine zBx (fun _ => ?_))
      first | refine zR ?_ | refine zQ ?_
      rw [kr]; rfl
theorem flat_take_le {α : Type} (f : α → List UInt8) (l : List α) (k : Nat) : ((l.take k).flatMap f).length ≤ (l.flatMap f).length := by
  have := congrArg (fun r => (List.flatMap f r).length) (List.take_append_drop k l)
  simp only [List.flatMap_append, List.length_append] at this
  omega
set_option maxRecDepth 100000 in
set_option maxHeartbeats 4000000 in
theorem savedText_af (s : Sav) (hst : ∀ v ∈ s.state, v.ok) (hin : ∀ x ∈ s.inputs, x.val.ok ∧ x.kind ≤ 3) (h1 : s.state.length ≤ 6) (h2 : s.inputs.length ≤ 2000) (hb : s.bytes.length ≤ 1099511627776) : AF Try.prog 99 [s.t] (· = .lit (.string (bs s.bytes))) := by
  obtain ⟨ac, st, l⟩ := s
  dsimp only at hst hin h1 h2
  have e0 : (Sav.mk ac st l).bytes = uv ac.size ++ (ac.data.toList ++ (uv st.length ++ (st.flatMap V.bytes ++ (uv l.length ++ l.flatMap Inp.bytes)))) := rfl
  rw [e0] at hb ⊢
  simp only [List.length_append, sz_len] at hb
  have c1 := rnat_af ac.size (by omega)
  have c2 := rnat_af st.length (by omega)
  have c3 := rnat_af l.length (by omega)
  have w1 : IntKind.u64.wrap (ac.size : Int) = (ac.size : Int) := by rw [wrap_u64]; omega
  have w2 : IntKind.u64.wrap (st.length : Int) = (st.length : Int) := by rw [wrap_u64]; omega
  have w3 : IntKind.u64.wrap (l.length : Int) = (l.length : Int) := by rw [wrap_u64]; omega
  refine af_enter tok Try.func99 Try.ntmps99 Try.results99 rfl (by kernel_rfl) rfl rfl fun F hX => ?_
  repeat (first | refine gG ?_ | refine zN1 (fun hlen => ?_) | refine zN2 (fun hlen => ?_) | refine zAl (fun _ => ?_) | refine zBf ?_)
  refine ac_draw [1, 1, 1, 1, 1, 1, 1, 1, 1, 1, 1, 1, 1, 1, 1] [0, 1, 2, 3, 4, 5, 6, 7, 8, 9, 10, 11, 12, 13, 14] (by kernel_rfl) (by kernel_rfl) ?_
  refine gW ?_
  apply w_q; (focus exact rfl); (focus exact rfl); focus (intro _; (refine lo_conv tok rfl rfl rfl rfl w1 ?_); exact det_refl)
  apply w_q; (focus exact rfl); (focus exact rfl); focus (intro _; (refine lo_call c1 rfl (by repeat (first | exact rzs_nil | apply rzs_cons | exact rz_c | exact rz_nil rfl | apply rz_agg | exact rz_own rfl | apply rz_fn | exact rz_ptr rfl | apply rz_tup)) ?_; rintro _ rfl); exact det_refl)
  refine gW ?_
  apply w_q; (focus exact rfl); (focus exact rfl); focus (intro _; (refine zCatb (uv ac.size) ac.data.toList (by simp only [List.length_append, List.length_cons, List.length_nil, sz_len]; omega) ?_); exact det_refl)
  refine gW ?_
  apply w_q; (focus exact rfl); (focus exact rfl); focus (intro _; (refine lo_conv tok rfl rfl rfl rfl w2 ?_); exact det_refl)
  apply w_q; (focus exact rfl); (focus exact rfl); focus (intro _; (refine lo_call c2 rfl (by repeat (first | exact rzs_nil | apply rzs_cons | exact rz_c | exact rz_nil rfl | apply rz_agg | exact rz_own rfl | apply rz_fn | exact rz_ptr rfl | apply rz_tup)) ?_; rintro _ rfl); exact det_refl)
  apply w_q; (focus exact rfl); (focus exact rfl); focus (intro _; (refine zCatb (uv ac.size ++ ac.data.toList) (uv st.length) (by simp only [List.length_append, List.length_cons, List.length_nil, sz_len]; omega) ?_); exact det_refl)
  refine gW ?_
  refine w_nil ?_
  repeat (first | refine gG ?_ | refine zN1 (fun hlen => ?_) | refine zN2 (fun hlen => ?_) | refine zAl (fun _ => ?_) | refine zBx (fun _ => ?_))
  refine x_loop [3, 5, 25, 26, 27, 28, 29, 30, 31, 32, 33] (fun y : Nat => [(25, .c (.lit (.int .i64 (y : Nat)))), (3, .c (.lit (.string (bs (uv ac.size ++ ac.data.toList ++ uv st.length ++ (st.take y).flatMap V.bytes)))))]) (fun _ => []) (fun y => y ≤ st.length) (fun y => st.length - y) 0 (Nat.zero_le _) ⟨rfl, by simp; rfl, trivial⟩ rfl ?_
  intro i hi
  repeat (first | refine gG ?_ | refine zN1 (fun hlen => ?_) | refine zN2 (fun hlen => ?_) | refine zAl (fun _ => ?_) | refine zBx (fun _ => ?_))
  refine x_cond rfl (fun h => ?_) (fun h => ?_)
  · have hi' : i < st.length := by simpa using h
    obtain ⟨a, hla⟩ := nth hi'
    have hsn := flat_snoc' V.bytes hla
    have hle := flat_take_le V.bytes st (i + 1)
    rw [hsn, List.length_append] at hle
    have hc := valueText_af a (hst a (List.mem_of_getElem? hla)) (by omega)
    repeat (first | refine gG ?_ | refine zN1 (fun hlen => ?_) | refine zN2 (fun hlen => ?_) | refine zAl (fun _ => ?_) | refine zBx (fun _ => ?_))
    refine zIx (i) (hi') ?_
    repeat (first | refine gG ?_ | refine zN1 (fun hlen => ?_) | refine zN2 (fun hlen => ?_) | refine zAl (fun _ => ?_) | refine zBx (fun _ => ?_))
    refine zEl (V.at hla) (V.ts_len a) ?_
    obtain ⟨ka, na, ta, la⟩ := a
    repeat (first | refine gG ?_ | refine zN1 (fun hlen => ?_) | refine zN2 (fun hlen => ?_) | refine zAl (fun _ => ?_) | refine zBx (fun _ => ?_))
    refine zCall (hc) ?_
    rintro _ rfl
    repeat (first | refine gG ?_ | refine zN1 (fun hlen => ?_) | refine zN2 (fun hlen => ?_) | refine zAl (fun _ => ?_) | refine zBx (fun _ => ?_))
    refine zCatb (uv ac.size ++ ac.data.toList ++ uv st.length ++ (st.take i).flatMap V.bytes) (V.mk ka na ta la).bytes (by simp only [List.length_append, List.length_cons, List.length_nil, sz_len]; omega) ?_
    repeat (first | refine gG ?_ | refine zN1 (fun hlen => ?_) | refine zN2 (fun hlen => ?_) | refine zAl (fun _ => ?_) | refine zBx (fun _ => ?_))
    exact ⟨i + 1, hi', by omega, x_wkd 0 ⟨rfl, by simp only [hsn, List.append_assoc]; rfl, trivial⟩ rfl (by repeat (first | exact ag_refl | refine ag_upd rfl ?_ | refine ag_at rfl rfl ?_))⟩
  · have hi' : i = st.length := by have : ¬ i < st.length := by simpa using h
                                   omega
    subst hi'
    rw [List.take_length]
    repeat (first | refine gG ?_ | refine zN1 (fun hlen => ?_) | refine zN2 (fun hlen => ?_) | refine zAl (fun _ => ?_) | refine zBx (fun _ => ?_))
    refine lo_conv tok rfl rfl rfl rfl w3 ?_
    repeat (first | refine gG ?_ | refine zN1 (fun hlen => ?_) | refine zN2 (fun hlen => ?_) | refine zAl (fun _ => ?_) | refine zBx (fun _ => ?_))
    refine zCall (c3) ?_
    rintro _ rfl
    repeat (first | refine gG ?_ | refine zN1 (fun hlen => ?_) | refine zN2 (fun hlen => ?_) | refine zAl (fun _ => ?_) | refine zBx (fun _ => ?_))
    refine zCatb (uv ac.size ++ ac.data.toList ++ uv st.length ++ st.flatMap V.bytes) (uv l.length) (by simp only [List.length_append, List.length_cons, List.length_nil, sz_len]; omega) ?_
    repeat (first | refine gG ?_ | refine zN1 (fun hlen => ?_) | refine zN2 (fun hlen => ?_) | refine zAl (fun _ => ?_) | refine zBx (fun _ => ?_))
    refine x_loop [3, 7, 44, 45, 46, 47, 48, 49, 50, 51, 52, 53, 54, 55, 56, 57, 58, 59, 60, 61, 62, 63] (fun y : Nat => [(44, .c (.lit (.int .i64 (y : Nat)))), (3, .c (.lit (.string (bs (uv ac.size ++ ac.data.toList ++ uv st.length ++ st.flatMap V.bytes ++ uv l.length ++ (l.take y).flatMap Inp.bytes)))))]) (fun _ => []) (fun y => y ≤ l.length) (fun y => l.length - y) 0 (Nat.zero_le _) ⟨rfl, by simp; rfl, trivial⟩ rfl ?_
    intro i hi
    repeat (first | refine gG ?_ | refine zN1 (fun hlen => ?_) | refine zN2 (fun hlen => ?_) | refine zAl (fun _ => ?_) | refine zBx (fun _ => ?_))
    refine x_cond rfl (fun h => ?_) (fun h => ?_)
    · have hi' : i < l.length := by simpa using h
      obtain ⟨a, hla⟩ := nth hi'
      have hsn := flat_snoc' Inp.bytes hla
      have hle := flat_take_le Inp.bytes l (i + 1)
      rw [hsn, List.length_append] at hle
      have hok := hin a (List.mem_of_getElem? hla)
      repeat (first | refine gG ?_ | refine zN1 (fun hlen => ?_) | refine zN2 (fun hlen => ?_) | refine zAl (fun _ => ?_) | refine zBx (fun _ => ?_))
      refine zIx (i) (hi') ?_
      repeat (first | refine gG ?_ | refine zN1 (fun hlen => ?_) | refine zN2 (fun hlen => ?_) | refine zAl (fun _ => ?_) | refine zBx (fun _ => ?_))
      refine zEl (flat_at Inp.ts 5 Inp.ts_len hla) (Inp.ts_len a) ?_
      obtain ⟨kd, v⟩ := a
      by_cases hk : kd = 3
      · have d1 : decide (kd < 3) = false := decide_eq_false (by omega)
        have hbb : (Inp.mk kd v).bytes = [kb kd] := by simp only [Inp.bytes]; rw [if_pos hk]
        rw [hbb] at hsn hle
        simp only [List.length_cons, List.length_nil] at hle
        obtain ⟨ka, na, ta, la⟩ := v
        repeat (first | refine gX ?_ | refine zN1 (fun hlen => ?_) | refine zN2 (fun hlen => ?_) | refine zAl (fun _ => ?_) | refine zBx (fun _ => ?_))
        refine lo_conv tok rfl rfl rfl rfl rfl ?_
        repeat (first | refine gG ?_ | refine zN1 (fun hlen => ?_) | refine zN2 (fun hlen => ?_) | refine zAl (fun _ => ?_) | refine zBx (fun _ => ?_))
        refine zStr [kb kd] (one_kb kd) rfl ?_
        repeat (first | refine gG ?_ | refine zN1 (fun hlen => ?_) | refine zN2 (fun hlen => ?_) | refine zAl (fun _ => ?_) | refine zBx (fun _ => ?_))
        refine zCatb (uv ac.size ++ ac.data.toList ++ uv st.length ++ st.flatMap V.bytes ++ uv l.length ++ (l.take i).flatMap Inp.bytes) [kb kd] (by simp only [List.length_append, List.length_cons, List.length_nil, sz_len]; omega) ?_
        repeat (first | refine gG ?_ | refine zN1 (fun hlen => ?_) | refine zN2 (fun hlen => ?_) | refine zAl (fun _ => ?_) | refine zBx (fun _ => ?_))
        exact ⟨i + 1, hi', by omega, x_wkd 0 ⟨rfl, by simp only [hsn, List.append_assoc]; rfl, trivial⟩ rfl (by repeat (first | exact ag_refl | refine ag_upd rfl ?_ | refine ag_at rfl rfl ?_))⟩
      · have d1 : decide (kd < 3) = true := decide_eq_true (by have := hok.2; simp only at this; omega)
        have hbb : (Inp.mk kd v).bytes = kb kd :: v.bytes := by simp only [Inp.bytes]; rw [if_neg hk]
        rw [hbb] at hsn hle
        simp only [List.length_cons, List.length_nil] at hle
        have hc := valueText_af v hok.1 (by omega)
        generalize v.bytes = vb at *
        obtain ⟨ka, na, ta, la⟩ := v
        repeat (first | refine gX ?_ | refine zN1 (fun hlen => ?_) | refine zN2 (fun hlen => ?_) | refine zAl (fun _ => ?_) | refine zBx (fun _ => ?_))
        refine lo_conv tok rfl rfl rfl rfl rfl ?_
        repeat (first | refine gG ?_ | refine zN1 (fun hlen => ?_) | refine zN2 (fun hlen => ?_) | refine zAl (fun _ => ?_) | refine zBx (fun _ => ?_))
        refine zStr [kb kd] (one_kb kd) rfl ?_
        repeat (first | refine gG ?_ | refine zN1 (fun hlen => ?_) | refine zN2 (fun hlen => ?_) | refine zAl (fun _ => ?_) | refine zBx (fun _ => ?_))
        refine zCatb (uv ac.size ++ ac.data.toList ++ uv st.length ++ st.flatMap V.bytes ++ uv l.length ++ (l.take i).flatMap Inp.bytes) [kb kd] (by simp only [List.length_append, List.length_cons, List.length_nil, sz_len]; omega) ?_
        repeat (first | refine gG ?_ | refine zN1 (fun hlen => ?_) | refine zN2 (fun hlen => ?_) | refine zAl (fun _ => ?_) | refine zBx (fun _ => ?_))
        refine zCall (hc) ?_
        rintro _ rfl
        repeat (first | refine gG ?_ | refine zN1 (fun hlen => ?_) | refine zN2 (fun hlen => ?_) | refine zAl (fun _ => ?_) | refine zBx (fun _ => ?_))
        refine zCatb (uv ac.size ++ ac.data.toList ++ uv st.length ++ st.flatMap V.bytes ++ uv l.length ++ (l.take i).flatMap Inp.bytes ++ [kb kd]) vb (by simp only [List.length_append, List.length_cons, List.length_nil, sz_len]; omega) ?_
        repeat (first | refine gG ?_ | refine zN1 (fun hlen => ?_) | refine zN2 (fun hlen => ?_) | refine zAl (fun _ => ?_) | refine zBx (fun _ => ?_))
        exact ⟨i + 1, hi', by omega, x_wkd 0 ⟨rfl, by simp only [hsn, List.append_assoc, List.cons_append, List.nil_append]; rfl, trivial⟩ rfl (by repeat (first | exact ag_refl | refine ag_upd rfl ?_ | refine ag_at rfl rfl ?_))⟩
    · have hi' : i = l.length := by have : ¬ i < l.length := by simpa using h
                                    omega
      subst hi'
      rw [List.take_length]
      repeat (first | refine gG ?_ | refine zN1 (fun hlen => ?_) | refine zN2 (fun hlen => ?_) | refine zAl (fun _ => ?_) | refine zBx (fun _ => ?_))
      first | refine zR ?_ | refine zQ ?_
      simp only [List.append_assoc]; rfl
end Go.Proofs.Ythgackidonocpaa
namespace Go.Proofs.Ythgackidonocpaa
open Go.RowKit
def intTs (i : Int) : List T := [.lit (.int .i64 i)]
def intRow (l : List Int) : T := .row l.length 1 (l.flatMap intTs)
def letRow (l : List Lt) : T := .row l.length 9 (l.flatMap Lt.ts)
structure Par where
  ref : Int
  sav : Sav
  box : List Lt
  ticks : Int
  wat : List Int
  lnk : List Int
def Par.ts (p : Par) : List T := [.lit (.int .i64 p.ref), .lit (.string p.sav.actor), V.row p.sav.state, inpRow p.sav.inputs, letRow p.box, .lit (.int .i64 p.ticks), intRow p.wat, intRow p.lnk]
def Par.t (p : Par) : T := .agg p.ts
theorem Par.ts_len (p : Par) : p.ts.length = 8 := rfl
def low1 (n : Int) : Bool := decide (n < 1)
def Par.check (p : Par) : Int :=
  if (decide (p.ref < 1) || decide (p.ticks < -1)) = true then 3
  else if (decide ((60 : Int) < (p.box.length : Int)) || decide ((1000 : Int) < (p.wat.length : Int)) || decide ((1000 : Int) < (p.lnk.length : Int))) = true then 2
  else if ¬ p.sav.check = 0 then p.sav.check
  else if ¬ errs (p.box.map Lt.check) = 0 then errs (p.box.map Lt.check)
  else if (p.wat.any low1 || p.lnk.any low1) = true then 3 else 0
def nb (n : Int) : List UInt8 := uv n.toNat
def Par.bytes (p : Par) : List UInt8 := uv p.ref.toNat ++ (p.sav.bytes ++ (uv p.box.length ++ (p.box.flatMap Lt.bytes ++ (uv (zz p.ticks) ++ (uv p.wat.length ++ (p.wat.flatMap nb ++ (uv p.lnk.length ++ p.lnk.flatMap nb)))))))
structure Par.Right (p : Par) : Prop where
  ref : 1 ≤ p.ref
  sav : p.sav.check = 0
  box : ∀ x ∈ p.box, x.check = 0
  boxes : p.box.length ≤ 60
  wat : ∀ n ∈ p.wat, 1 ≤ n
  lnk : ∀ n ∈ p.lnk, 1 ≤ n
  wats : p.wat.length ≤ 1000
  lnks : p.lnk.length ≤ 1000
theorem low_all {l : List Int} (h : l.any low1 = false) : ∀ n ∈ l, 1 ≤ n := by
  intro n hn
  rw [List.any_eq_false] at h
  have := h n hn
  simp only [low1, decide_eq_true_eq] at this
  omega
theorem Par.right {p : Par} (h : p.check = 0) : p.Right := by
  unfold Par.check at h
  split at h
  · omega
  · rename_i h1
    split at h
    · omega
    · rename_i h2
      split at h
      · rename_i h3; exact absurd h h3
      · rename_i h3
        split at h
        · rename_i h4; exact absurd h h4
        · rename_i h4
          split at h
          · omega
          · rename_i h5
            simp only [Bool.or_eq_true, decide_eq_true_eq, not_or] at h1 h2
            simp only [Bool.not_eq_true, Bool.or_eq_false_iff] at h5
            exact ⟨by omega, by omega, errs_zero Lt.check (by omega), by omega, low_all h5.1, low_all h5.2, by omega, by omega⟩
def Lt.ok (x : Lt) : Prop := match x with | .mk _ fm tt n _ v => inI fm ∧ inI tt ∧ inI n ∧ v.ok ∧ v.bytes.length ≤ 9223372036854775807
structure Par.Ok (p : Par) : Prop where
  ref : inI p.ref
  ticks : inI p.ticks
  st : ∀ v ∈ p.sav.state, v.ok ∧ v.bytes.length ≤ 9223372036854775807
  inp : ∀ x ∈ p.sav.inputs, x.val.ok ∧ x.val.bytes.length ≤ 9223372036854775807
  box : ∀ x ∈ p.box, x.ok
  wat : ∀ n ∈ p.wat, inI n
  lnk : ∀ n ∈ p.lnk, inI n
def Lt.tiny (x : Lt) : Prop := x.ok ∧ x.val.size ≤ 1048576 ∧ x.bytes.length ≤ 40000000 ∧ x.Small
theorem Lt.tiny_of {k fm tt n : Int} {t : ByteArray} {v : V} (h1 : inI fm) (h2 : inI tt) (h3 : inI n) (h4 : t.size ≤ 4000000) (h5 : v.tiny) : (Lt.mk k fm tt n t v).tiny := by
  obtain ⟨v1, v2, v3⟩ := h5
  refine ⟨⟨h1, h2, h3, v1, by omega⟩, v2, ?_, ⟨v1, v2, by simp only [Lt.val]; omega, h1, h2, h3, by omega⟩⟩
  unfold inI at h1 h2 h3
  have u1 := uv_len64 (n := fm.toNat) (by omega)
  have u2 := uv_len64 (n := tt.toNat) (by omega)
  have u3 := uv_len64 (n := n.toNat) (by omega)
  have u4 := uv_len64 (n := t.size) (by omega)
  simp only [Lt.bytes, List.length_cons, List.length_append, sz_len]
  split
  · omega
  · simp only [List.length_nil]; omega
structure Par.Small (p : Par) : Prop where
  sav : p.sav.Small
  box : ∀ x ∈ p.box, x.tiny
  ref : inI p.ref
  ticks : inI p.ticks
  wat : ∀ n ∈ p.wat, inI n
  lnk : ∀ n ∈ p.lnk, inI n
theorem Par.Small.ok {p : Par} (h : p.Small) : p.Ok :=
  ⟨h.ref, h.ticks, fun v hv => ⟨(h.sav.state v hv).1, by have := (h.sav.state v hv).2.2; omega⟩, fun v hv => ⟨(h.sav.inp v hv).1, by have := (h.sav.inp v hv).2.2; omega⟩, fun x hx => (h.box x hx).1, h.wat, h.lnk⟩
def Par.out (p : Par) : List UInt8 := if p.check = 0 then p.bytes else []
def Par.zero : Par := ⟨0, Sav.zero, [], 0, [], []⟩
end Go.Proofs.Ythgackidonocpaa
namespace Go.Proofs.Ythgackidonocpaa
open Go.RowKit
set_option maxRecDepth 100000 in
set_option maxHeartbeats 8000000 in
theorem letterFault_af (x : Lt) (hs : x.val.size ≤ 1048576) : AF Try.prog 29 [x.t] (· = .lit (.int .i64 x.fault)) := by
  obtain ⟨k, fm, tt, n, t, v⟩ := x
  have h1 := valueFault_af v hs
  have h2 := none_af v
  simp only [Lt.fault]
  generalize v.check = cv at *
  generalize v.isZ = zv at *
  obtain ⟨kv, nv, tv, lv⟩ := v
  refine af_enter tok Try.func29 Try.ntmps29 Try.results29 rfl (by kernel_rfl) rfl rfl fun F hX => ?_
  cases qA : decide ((4000 : Int) < (t.size : Int))
  · skip
    cases qF : decide (fm < 0)
    · skip
      cases qT : decide (tt < 0)
      · skip
        cases qK1 : decide (k < 1)
        · skip
          cases qK5x : decide ((5 : Int) < k)
          · skip
            cases qK2 : decide (k = 2)
            · skip
              cases qN0 : decide (n = 0)
              · skip
                repeat (first | refine gG ?_ | refine zN1 (fun hlen => ?_) | refine zN2 (fun hlen => ?_) | refine zBf ?_)
                first | refine zR ?_ | refine zQ ?_
                first | rfl | (simp only [qA, qF, qT, qK1, qK5x, qK2, qN0]; first | rfl | simp) | simp
              · skip
                cases qNn : decide (n < 0)
                · skip
                  cases qN2 : decide ((2 : Int) < n)
                  · skip
                    cases qK5 : decide (k = 5)
                    · skip
                      cases qE : decide (t = ⟨#[]⟩)
                      · skip
                        repeat (first | refine gG ?_ | refine zN1 (fun hlen => ?_) | refine zN2 (fun hlen => ?_) | refine zBf ?_)
                        first | refine zR ?_ | refine zQ ?_
                        first | rfl | (simp only [qA, qF, qT, qK1, qK5x, qK2, qN0, qNn, qN2, qK5, qE]; first | rfl | simp) | simp
                      · skip
                        cases qKM : decide (k = 1)
                        · skip
                          repeat (first | refine gG ?_ | refine zN1 (fun hlen => ?_) | refine zN2 (fun hlen => ?_) | refine zBf ?_)
                          refine zCall (h2) ?_
                          rintro _ rfl
                          cases zv
                          · repeat (first | refine gG ?_ | refine zN1 (fun hlen => ?_) | refine zN2 (fun hlen => ?_) | refine zBx (fun _ => ?_))
                            first | refine zR ?_ | refine zQ ?_
                            first | rfl | (simp only [qA, qF, qT, qK1, qK5x, qK2, qN0, qNn, qN2, qK5, qE, qKM]; first | rfl | simp) | simp
                          · repeat (first | refine gG ?_ | refine zN1 (fun hlen => ?_) | refine zN2 (fun hlen => ?_) | refine zBx (fun _ => ?_))
                            first | refine zR ?_ | refine zQ ?_
                            first | rfl | (simp only [qA, qF, qT, qK1, qK5x, qK2, qN0, qNn, qN2, qK5, qE, qKM]; first | rfl | simp) | simp
                        · skip
                          repeat (first | refine gG ?_ | refine zN1 (fun hlen => ?_) | refine zN2 (fun hlen => ?_) | refine zBf ?_)
                          refine zCall (h1) ?_
                          rintro _ rfl
                          repeat (first | refine gG ?_ | refine zN1 (fun hlen => ?_) | refine zN2 (fun hlen => ?_) | refine zBx (fun _ => ?_))
                          first | refine zR ?_ | refine zQ ?_
                          first | rfl | (simp only [qA, qF, qT, qK1, qK5x, qK2, qN0, qNn, qN2, qK5, qE, qKM]; first | rfl | simp) | simp
                    · skip
                      cases qKM : decide (k = 1)
                      · skip
                        repeat (first | refine gG ?_ | refine zN1 (fun hlen => ?_) | refine zN2 (fun hlen => ?_) | refine zBf ?_)
                        refine zCall (h2) ?_
                        rintro _ rfl
                        cases zv
                        · repeat (first | refine gG ?_ | refine zN1 (fun hlen => ?_) | refine zN2 (fun hlen => ?_) | refine zBx (fun _ => ?_))
                          first | refine zR ?_ | refine zQ ?_
                          first | rfl | (simp only [qA, qF, qT, qK1, qK5x, qK2, qN0, qNn, qN2, qK5, qKM]; first | rfl | simp) | simp
                        · repeat (first | refine gG ?_ | refine zN1 (fun hlen => ?_) | refine zN2 (fun hlen => ?_) | refine zBx (fun _ => ?_))
                          first | refine zR ?_ | refine zQ ?_
                          first | rfl | (simp only [qA, qF, qT, qK1, qK5x, qK2, qN0, qNn, qN2, qK5, qKM]; first | rfl | simp) | simp
                      · skip
                        repeat (first | refine gG ?_ | refine zN1 (fun hlen => ?_) | refine zN2 (fun hlen => ?_) | refine zBf ?_)
                        refine zCall (h1) ?_
                        rintro _ rfl
                        repeat (first | refine gG ?_ | refine zN1 (fun hlen => ?_) | refine zN2 (fun hlen => ?_) | refine zBx (fun _ => ?_))
                        first | refine zR ?_ | refine zQ ?_
                        first | rfl | (simp only [qA, qF, qT, qK1, qK5x, qK2, qN0, qNn, qN2, qK5, qKM]; first | rfl | simp) | simp
                  · skip
                    repeat (first | refine gG ?_ | refine zN1 (fun hlen => ?_) | refine zN2 (fun hlen => ?_) | refine zBf ?_)
                    first | refine zR ?_ | refine zQ ?_
                    first | rfl | (simp only [qA, qF, qT, qK1, qK5x, qK2, qN0, qNn, qN2]; first | rfl | simp) | simp
                · skip
                  repeat (first | refine gG ?_ | refine zN1 (fun hlen => ?_) | refine zN2 (fun hlen => ?_) | refine zBf ?_)
                  first | refine zR ?_ | refine zQ ?_
                  first | rfl | (simp only [qA, qF, qT, qK1, qK5x, qK2, qN0, qNn]; first | rfl | simp) | simp
            · skip
              cases qNn : decide (n < 0)
              · skip
                cases qN2 : decide ((2 : Int) < n)
                · skip
                  cases qKM : decide (k = 1)
                  · skip
                    repeat (first | refine gG ?_ | refine zN1 (fun hlen => ?_) | refine zN2 (fun hlen => ?_) | refine zBf ?_)
                    refine zCall (h2) ?_
                    rintro _ rfl
                    cases zv
                    · repeat (first | refine gG ?_ | refine zN1 (fun hlen => ?_) | refine zN2 (fun hlen => ?_) | refine zBx (fun _ => ?_))
                      first | refine zR ?_ | refine zQ ?_
                      first | rfl | (simp only [qA, qF, qT, qK1, qK5x, qK2, qNn, qN2, qKM]; first | rfl | simp) | simp
                    · repeat (first | refine gG ?_ | refine zN1 (fun hlen => ?_) | refine zN2 (fun hlen => ?_) | refine zBx (fun _ => ?_))
                      first | refine zR ?_ | refine zQ ?_
                      first | rfl | (simp only [qA, qF, qT, qK1, qK5x, qK2, qNn, qN2, qKM]; first | rfl | simp) | simp
                  · skip
                    repeat (first | refine gG ?_ | refine zN1 (fun hlen => ?_) | refine zN2 (fun hlen => ?_) | refine zBf ?_)
                    refine zCall (h1) ?_
                    rintro _ rfl
                    repeat (first | refine gG ?_ | refine zN1 (fun hlen => ?_) | refine zN2 (fun hlen => ?_) | refine zBx (fun _ => ?_))
                    first | refine zR ?_ | refine zQ ?_
                    first | rfl | (simp only [qA, qF, qT, qK1, qK5x, qK2, qNn, qN2, qKM]; first | rfl | simp) | simp
                · skip
                  repeat (first | refine gG ?_ | refine zN1 (fun hlen => ?_) | refine zN2 (fun hlen => ?_) | refine zBf ?_)
                  first | refine zR ?_ | refine zQ ?_
                  first | rfl | (simp only [qA, qF, qT, qK1, qK5x, qK2, qNn, qN2]; first | rfl | simp) | simp
              · skip
                repeat (first | refine gG ?_ | refine zN1 (fun hlen => ?_) | refine zN2 (fun hlen => ?_) | refine zBf ?_)
                first | refine zR ?_ | refine zQ ?_
                first | rfl | (simp only [qA, qF, qT, qK1, qK5x, qK2, qNn]; first | rfl | simp) | simp
          · skip
            repeat (first | refine gG ?_ | refine zN1 (fun hlen => ?_) | refine zN2 (fun hlen => ?_) | refine zBf ?_)
            first | refine zR ?_ | refine zQ ?_
            first | rfl | (simp only [qA, qF, qT, qK1, qK5x]; first | rfl | simp) | simp
        · skip
          repeat (first | refine gG ?_ | refine zN1 (fun hlen => ?_) | refine zN2 (fun hlen => ?_) | refine zBf ?_)
          first | refine zR ?_ | refine zQ ?_
          first | rfl | (simp only [qA, qF, qT, qK1]; first | rfl | simp) | simp
      · skip
        repeat (first | refine gG ?_ | refine zN1 (fun hlen => ?_) | refine zN2 (fun hlen => ?_) | refine zBf ?_)
        first | refine zR ?_ | refine zQ ?_
        first | rfl | (simp only [qA, qF, qT]; first | rfl | simp) | simp
    · skip
      repeat (first | refine gG ?_ | refine zN1 (fun hlen => ?_) | refine zN2 (fun hlen => ?_) | refine zBf ?_)
      first | refine zR ?_ | refine zQ ?_
      first | rfl | (simp only [qA, qF]; first | rfl | simp) | simp
  · skip
    repeat (first | refine gG ?_ | refine zN1 (fun hlen => ?_) | refine zN2 (fun hlen => ?_) | refine zBf ?_)
    first | refine zR ?_ | refine zQ ?_
    first | rfl | (simp only [qA]; first | rfl | simp) | simp
end Go.Proofs.Ythgackidonocpaa
namespace Go.Proofs.Ythgackidonocpaa
open Go.RowKit
set_option maxRecDepth 100000 in
set_option maxHeartbeats 4000000 in
theorem appendLetter_ag {k : Int} {fm tt n : Nat} {t : ByteArray} {v : V} (hfm : fm < 9223372036854775808) (htt : tt < 9223372036854775808) (hn : n < 9223372036854775808) (hok : v.ok) (w : Value) (b : List UInt8) (hb : b.length + (Lt.mk k fm tt n t v).bytes.length ≤ 1099511627776) :
    AG Try.prog 87 [.own 0 w, .c (Lt.mk k fm tt n t v).t] [.row w 5 1 b.length (byts b)] (Grew 5 (b ++ (Lt.mk k fm tt n t v).bytes)) := by
  have e0 : (Lt.mk k fm tt n t v).bytes = kb k :: (uv fm ++ (uv tt ++ (uv n ++ (uv t.size ++ (t.data.toList ++ (if k = 1 then v.bytes else [])))))) := by simp only [Lt.bytes, Int.toNat_natCast]
  rw [e0] at hb ⊢
  simp only [List.length_append, List.length_cons, sz_len] at hb
  have hi1 : ∀ v1, AG Try.prog 169 [.own 0 v1, .c (.lit (.int .i64 (fm : Int)))] [.row v1 5 1 (b.length + 1) (byts b ++ [.lit (.int .u8 (IntKind.u8.wrap k))])] (Grew 5 (b ++ (kb k :: uv fm))) := by
    intro v1
    have h := nat_ag v1 (b ++ [kb k]) fm hfm (by simp only [List.length_append, List.length_cons, List.length_nil]; omega)
    rw [← kb_T]
    simpa [byts] using h
  have hi2 := fun v2 => nat_ag v2 (b ++ (kb k :: uv fm)) tt htt (by simp only [List.length_append, List.length_cons, List.length_nil, sz_len]; omega)
  have hi3 := fun v3 => nat_ag v3 (b ++ (kb k :: uv fm) ++ uv tt) n hn (by simp only [List.length_append, List.length_cons, List.length_nil, sz_len]; omega)
  have hi4 := fun v4 => text_ag v4 (b ++ (kb k :: uv fm) ++ uv tt ++ uv n) t (by simp only [List.length_append, List.length_cons, List.length_nil, sz_len]; omega)
  by_cases hk : k = 1
  · rw [if_pos hk] at hb ⊢
    have hi5 := fun v5 => appendValue_ag v hok v5 (b ++ (kb k :: uv fm) ++ uv tt ++ uv n ++ (uv t.size ++ t.data.toList)) (by simp only [List.length_append, List.length_cons, List.length_nil, sz_len]; omega)
    have d1 : decide (k = 1) = true := decide_eq_true hk
    obtain ⟨kv, nv, tv, lv⟩ := v
    refine ag_enter 1 tok Try.func87 Try.ntmps87 Try.results87 rfl (by kernel_rfl) rfl fun F => ?_
    repeat (first | refine gG ?_ | refine zBf ?_ | refine zAp (fun _ => ?_))
    refine ac_draw [1, 1, 1, 1, 1, 2, 0, 0, 2, 0, 0, 2, 1] [0, 1, 2, 3, 4, 6, 7, 9, 10, 5, 8, 11, 12] (by kernel_rfl) (by kernel_rfl) ?_
    refine gW ?_
    apply w_q; (focus exact rfl); (focus exact rfl); focus (intro _; (refine lo_conv tok rfl rfl rfl rfl rfl ?_); exact det_refl)
    refine gW ?_
    apply w_l; (focus exact rfl); (focus exact rfl); (first | (refine zkL ?_; first | refine zL1 ?_ | refine zL2 ?_ | refine zL3 ?_ | refine zLp ?_) | refine zM ?_ | (refine zkF ?_; first | refine zF1 ?_ | refine zF2 ?_ | refine zF3 ?_) | refine zA ?_ | (refine zkB ?_; first | refine zC5 ?_ | refine zC6 ?_ | refine zC1 ?_ | refine zC2 ?_ | refine zC3 ?_ | refine zC4 ?_ | refine zS5 ?_ | refine zS6 ?_ | refine zS1 ?_ | refine zS2 ?_ | refine zS3 ?_ | refine zS4 ?_ | refine zInc ?_ | refine zQ1 ?_ | refine zQ2 ?_ | refine zQ3 ?_ | refine zQ4 ?_ | refine zQ5 ?_ | refine zQ6 ?_) | (refine zkI ?_; first | refine zN1 (fun hlen => ?_) | refine zN2 (fun hlen => ?_) | refine zN3 ?_ | refine zN4 ?_ | refine zAp (fun _ => ?_)) | refine zS ?_ | refine zAl (fun _ => ?_) | refine zBx (fun _ => ?_) | refine zPt ?_ | refine zPf ?_ | refine zE ?_ | refine zEA ?_ | refine zNot ?_ | refine zBd ?_ | refine zBs ?_ | refine zFn ?_ | refine zK1 ?_ | refine zK2 ?_)
    apply w_l; (focus exact rfl); (focus exact rfl); (refine zCallG [0] (hi1 _) ?_; rintro _ _ ⟨v', rfl, rfl⟩; refine ⟨.own 0 v', _, re_own, rfl, rfl, ?_⟩)
    apply w_l; (focus exact rfl); (focus exact rfl); (refine zCallG [0] (hi2 _) ?_; rintro _ _ ⟨v', rfl, rfl⟩; refine ⟨.own 0 v', _, re_own, rfl, rfl, ?_⟩)
    refine gW ?_
    refine w_nil ?_
    repeat (first | refine gG ?_ | refine zBx (fun _ => ?_) | refine zAp (fun _ => ?_))
    refine ac_draw [1, 1, 1, 2, 0, 0, 2, 1] [0, 1, 2, 4, 5, 3, 6, 7] (by kernel_rfl) (by kernel_rfl) ?_
    refine gW ?_
    apply w_l; (focus exact rfl); (focus exact rfl); (refine zCallG [0] (hi3 _) ?_; rintro _ _ ⟨v', rfl, rfl⟩; refine ⟨.own 0 v', _, re_own, rfl, rfl, ?_⟩)
    apply w_l; (focus exact rfl); (focus exact rfl); (refine zCallG [0] (hi4 _) ?_; rintro _ _ ⟨v', rfl, rfl⟩; refine ⟨.own 0 v', _, re_own, rfl, rfl, ?_⟩)
    refine gW ?_
    refine w_nil ?_
    repeat (first | refine gG ?_ | refine zBx (fun _ => ?_) | refine zAp (fun _ => ?_))
    refine zCallG [0] (hi5 _) ?_
    rintro _ _ ⟨v', rfl, rfl⟩
    refine ⟨.own 0 v', _, re_own, rfl, rfl, ?_⟩
    repeat (first | refine gG ?_ | refine zBx (fun _ => ?_) | refine zAp (fun _ => ?_))
    refine zG ?_
    exact ⟨_, rfl, by simp only [List.append_assoc, List.cons_append]⟩
  · rw [if_neg hk] at hb ⊢
    have d1 : decide (k = 1) = false := decide_eq_false hk
    obtain ⟨kv, nv, tv, lv⟩ := v
    refine ag_enter 1 tok Try.func87 Try.ntmps87 Try.results87 rfl (by kernel_rfl) rfl fun F => ?_
    repeat (first | refine gG ?_ | refine zBf ?_ | refine zAp (fun _ => ?_))
    refine ac_draw [1, 1, 1, 1, 1, 2, 0, 0, 2, 0, 0, 2, 1] [0, 1, 2, 3, 4, 6, 7, 9, 10, 5, 8, 11, 12] (by kernel_rfl) (by kernel_rfl) ?_
    refine gW ?_
    apply w_q; (focus exact rfl); (focus exact rfl); focus (intro _; (refine lo_conv tok rfl rfl rfl rfl rfl ?_); exact det_refl)
    refine gW ?_
    apply w_l; (focus exact rfl); (focus exact rfl); (first | (refine zkL ?_; first | refine zL1 ?_ | refine zL2 ?_ | refine zL3 ?_ | refine zLp ?_) | refine zM ?_ | (refine zkF ?_; first | refine zF1 ?_ | refine zF2 ?_ | refine zF3 ?_) | refine zA ?_ | (refine zkB ?_; first | refine zC5 ?_ | refine zC6 ?_ | refine zC1 ?_ | refine zC2 ?_ | refine zC3 ?_ | refine zC4 ?_ | refine zS5 ?_ | refine zS6 ?_ | refine zS1 ?_ | refine zS2 ?_ | refine zS3 ?_ | refine zS4 ?_ | refine zInc ?_ | refine zQ1 ?_ | refine zQ2 ?_ | refine zQ3 ?_ | refine zQ4 ?_ | refine zQ5 ?_ | refine zQ6 ?_) | (refine zkI ?_; first | refine zN1 (fun hlen => ?_) | refine zN2 (fun hlen => ?_) | refine zN3 ?_ | refine zN4 ?_ | refine zAp (fun _ => ?_)) | refine zS ?_ | refine zAl (fun _ => ?_) | refine zBx (fun _ => ?_) | refine zPt ?_ | refine zPf ?_ | refine zE ?_ | refine zEA ?_ | refine zNot ?_ | refine zBd ?_ | refine zBs ?_ | refine zFn ?_ | refine zK1 ?_ | refine zK2 ?_)
    apply w_l; (focus exact rfl); (focus exact rfl); (refine zCallG [0] (hi1 _) ?_; rintro _ _ ⟨v', rfl, rfl⟩; refine ⟨.own 0 v', _, re_own, rfl, rfl, ?_⟩)
    apply w_l; (focus exact rfl); (focus exact rfl); (refine zCallG [0] (hi2 _) ?_; rintro _ _ ⟨v', rfl, rfl⟩; refine ⟨.own 0 v', _, re_own, rfl, rfl, ?_⟩)
    refine gW ?_
    refine w_nil ?_
    repeat (first | refine gG ?_ | refine zBx (fun _ => ?_) | refine zAp (fun _ => ?_))
    refine ac_draw [1, 1, 1, 2, 0, 0, 2, 1] [0, 1, 2, 4, 5, 3, 6, 7] (by kernel_rfl) (by kernel_rfl) ?_
    refine gW ?_
    apply w_l; (focus exact rfl); (focus exact rfl); (refine zCallG [0] (hi3 _) ?_; rintro _ _ ⟨v', rfl, rfl⟩; refine ⟨.own 0 v', _, re_own, rfl, rfl, ?_⟩)
    apply w_l; (focus exact rfl); (focus exact rfl); (refine zCallG [0] (hi4 _) ?_; rintro _ _ ⟨v', rfl, rfl⟩; refine ⟨.own 0 v', _, re_own, rfl, rfl, ?_⟩)
    refine gW ?_
    refine w_nil ?_
    repeat (first | refine gG ?_ | refine zBx (fun _ => ?_) | refine zAp (fun _ => ?_))
    refine zG ?_
    exact ⟨_, rfl, by simp only [List.append_assoc, List.cons_append, List.append_nil]⟩
theorem Lt.bytes_le {x : Lt} (h : x.Small) : x.bytes.length ≤ 2000000100 := by
  obtain ⟨k, fm, tt, n, t, v⟩ := x
  obtain ⟨h1, h2, h3, h4⟩ := h
  simp only [Lt.val] at h1 h2 h3
  obtain ⟨a1, a2, a3, a4⟩ := h4
  unfold inI at a1 a2 a3
  have u1 := uv_len64 (n := fm.toNat) (by omega)
  have u2 := uv_len64 (n := tt.toNat) (by omega)
  have u3 := uv_len64 (n := n.toNat) (by omega)
  have u4 := uv_len64 (n := t.size) (by omega)
  simp only [Lt.bytes, List.length_cons, List.length_append, sz_len]
  split
  · omega
  · simp only [List.length_nil]; omega
theorem nat_of {n : Int} (h : 0 ≤ n) : ∃ m : Nat, n = m := ⟨n.toNat, by omega⟩
set_option maxRecDepth 100000 in
set_option maxHeartbeats 4000000 in
theorem writtenL_af (x : Lt) (hs : x.Small) : AF Try.prog 86 [x.t, .fn (.func 28) [], .fn (.func 87) []] (Outs2 x.out x.check) := by
  have hc := checkLetter_af x
  have hbl := Lt.bytes_le hs
  unfold Lt.out
  by_cases hyes : x.check = 0
  · rw [if_pos hyes]
    obtain ⟨k, fm, tt, n, t, v⟩ := x
    have hR := Lt.right hyes
    obtain ⟨h1, h2, h3, h4⟩ := hs
    simp only [Lt.val] at h1 h2 h3
    obtain ⟨a1, a2, a3, a4⟩ := h4
    unfold inI at a1 a2 a3
    obtain ⟨fm, rfl⟩ := nat_of hR.fm0
    obtain ⟨tt, rfl⟩ := nat_of hR.tt0
    obtain ⟨n, rfl⟩ := nat_of hR.n0.1
    have ha := ag_nil (Nat.succ_pos 0) (appendLetter_ag (k := k) (t := t) (fm := fm) (tt := tt) (n := n) (by omega) (by omega) (by omega) h1 (.slice none 0 0) [] (by simp only [List.length_nil]; omega))
    rw [List.nil_append] at ha
    generalize (Lt.mk k fm tt n t v).bytes = o at *
    rw [hyes] at hc ⊢
    obtain ⟨kv, nv, tv, lv⟩ := v
    refine af_enter tok Try.func86 Try.ntmps86 Try.results86 rfl (by kernel_rfl) rfl rfl fun F hX => ?_
    repeat (first | refine gG ?_ | refine zBf ?_)
    refine zCallc (hc) ?_
    rintro _ rfl
    repeat (first | refine gG ?_ | refine zBx (fun _ => ?_))
    refine zCallGc [] ha ?_
    rintro _ _ ⟨v', rfl, rfl⟩
    refine ⟨.own 0 v', _, re_own, rfl, rfl, ?_⟩
    repeat (first | refine gG ?_ | refine zBx (fun _ => ?_))
    first | refine zR ?_ | refine zQ ?_
    rfl
  · rw [if_neg hyes]
    have d1 : decide (x.check = 0) = false := decide_eq_false hyes
    generalize x.check = e at *
    obtain ⟨k, fm, tt, n, t, ⟨kv, nv, tv, lv⟩⟩ := x
    refine af_enter tok Try.func86 Try.ntmps86 Try.results86 rfl (by kernel_rfl) rfl rfl fun F hX => ?_
    repeat (first | refine gG ?_ | refine zBf ?_)
    refine zCallc (hc) ?_
    rintro _ rfl
    repeat (first | refine gG ?_ | refine zBx (fun _ => ?_))
    first | refine zR (ts := [bytRow [], .lit (.int .i64 e)]) ?_ | refine zQ (ts := [bytRow [], .lit (.int .i64 e)]) ?_
    rfl
set_option maxRecDepth 100000 in
set_option maxHeartbeats 4000000 in
theorem letterW_af (x : Lt) (hs : x.Small) : AF Try.prog 26 [x.t] (Outs2 x.out x.check) := by
  have hc := writtenL_af x hs
  generalize x.out = o at *
  generalize x.check = e at *
  obtain ⟨k, fm, tt, n, t, ⟨kv, nv, tv, lv⟩⟩ := x
  refine af_enter tok Try.func26 Try.ntmps26 Try.results26 rfl (by kernel_rfl) rfl rfl fun F hX => ?_
  repeat (first | refine gG ?_ | refine zBf ?_)
  refine zCall (hc) ?_
  rintro _ rfl
  repeat (first | refine gG ?_ | refine zBx (fun _ => ?_))
  first | refine zR ?_ | refine zQ ?_
  rfl
set_option maxRecDepth 100000 in
set_option maxHeartbeats 4000000 in
theorem letterText_af {k : Int} {fm tt n : Nat} {t : ByteArray} {v : V} (hfm : fm < 9223372036854775808) (htt : tt < 9223372036854775808) (hn : n < 9223372036854775808) (hok : v.ok) (hb : (Lt.mk k fm tt n t v).bytes.length ≤ 1099511627776) : AF Try.prog 88 [(Lt.mk k fm tt n t v).t] (· = .lit (.string (bs (Lt.mk k fm tt n t v).bytes))) := by
  have e0 : (Lt.mk k fm tt n t v).bytes = kb k :: (uv fm ++ (uv tt ++ (uv n ++ (uv t.size ++ (t.data.toList ++ (if k = 1 then v.bytes else [])))))) := by simp only [Lt.bytes, Int.toNat_natCast]
  rw [e0] at hb ⊢
  simp only [List.length_append, List.length_cons, sz_len] at hb
  have h1 := rnat_af fm (by omega)
  have h2 := rnat_af tt (by omega)
  have h3 := rnat_af n (by omega)
  have h4 := rnat_af t.size (by omega)
  have w1 : IntKind.u64.wrap (fm : Int) = (fm : Int) := by rw [wrap_u64]; omega
  have w2 : IntKind.u64.wrap (tt : Int) = (tt : Int) := by rw [wrap_u64]; omega
  have w3 : IntKind.u64.wrap (n : Int) = (n : Int) := by rw [wrap_u64]; omega
  have w4 : IntKind.u64.wrap (t.size : Int) = (t.size : Int) := by rw [wrap_u64]; omega
  by_cases hk : k = 1
  · rw [if_pos hk] at hb ⊢
    have h5 := valueText_af v hok (by omega)
    have d1 : decide (k = 1) = true := decide_eq_true hk
    generalize hvb : v.bytes = vb at *
    obtain ⟨kv, nv, tv, lv⟩ := v
    refine af_enter tok Try.func88 Try.ntmps88 Try.results88 rfl (by kernel_rfl) rfl rfl fun F hX => ?_
    repeat (first | refine gG ?_ | refine zN1 (fun hlen => ?_) | refine zN2 (fun hlen => ?_) | refine zBf ?_)
    refine ac_draw [1, 1, 1, 1, 1, 1, 1, 1, 1, 1, 1, 1, 1, 1, 1, 1, 1, 1, 1, 1, 1, 1, 1, 1, 1, 1, 1, 1, 1, 1] [0, 1, 2, 3, 4, 5, 6, 7, 8, 9, 10, 11, 12, 13, 14, 15, 16, 17, 18, 19, 20, 21, 22, 23, 24, 25, 26, 27, 28, 29] (by kernel_rfl) (by kernel_rfl) ?_
    refine gW ?_
    apply w_q; (focus exact rfl); (focus exact rfl); focus (intro _; (refine lo_conv tok rfl rfl rfl rfl rfl ?_); exact det_refl)
    refine gW ?_
    apply w_q; (focus exact rfl); (focus exact rfl); focus (intro _; (refine zStr [kb k] (one_kb k) rfl ?_); exact det_refl)
    refine gW ?_
    apply w_q; (focus exact rfl); (focus exact rfl); focus (intro _; (refine lo_conv tok rfl rfl rfl rfl w1 ?_); exact det_refl)
    apply w_q; (focus exact rfl); (focus exact rfl); focus (intro _; (refine lo_call h1 rfl (by repeat (first | exact rzs_nil | apply rzs_cons | exact rz_c | exact rz_nil rfl | apply rz_agg | exact rz_own rfl | apply rz_fn | exact rz_ptr rfl | apply rz_tup)) ?_; rintro _ rfl); exact det_refl)
    apply w_q; (focus exact rfl); (focus exact rfl); focus (intro _; (refine zCatb ([kb k]) (uv fm) (by simp only [List.length_append, List.length_cons, List.length_nil, sz_len]; omega) ?_); exact det_refl)
    refine gW ?_
    apply w_q; (focus exact rfl); (focus exact rfl); focus (intro _; (refine lo_conv tok rfl rfl rfl rfl w2 ?_); exact det_refl)
    apply w_q; (focus exact rfl); (focus exact rfl); focus (intro _; (refine lo_call h2 rfl (by repeat (first | exact rzs_nil | apply rzs_cons | exact rz_c | exact rz_nil rfl | apply rz_agg | exact rz_own rfl | apply rz_fn | exact rz_ptr rfl | apply rz_tup)) ?_; rintro _ rfl); exact det_refl)
    apply w_q; (focus exact rfl); (focus exact rfl); focus (intro _; (refine zCatb ([kb k] ++ uv fm) (uv tt) (by simp only [List.length_append, List.length_cons, List.length_nil, sz_len]; omega) ?_); exact det_refl)
    refine gW ?_
    apply w_q; (focus exact rfl); (focus exact rfl); focus (intro _; (refine lo_conv tok rfl rfl rfl rfl w3 ?_); exact det_refl)
    apply w_q; (focus exact rfl); (focus exact rfl); focus (intro _; (refine lo_call h3 rfl (by repeat (first | exact rzs_nil | apply rzs_cons | exact rz_c | exact rz_nil rfl | apply rz_agg | exact rz_own rfl | apply rz_fn | exact rz_ptr rfl | apply rz_tup)) ?_; rintro _ rfl); exact det_refl)
    apply w_q; (focus exact rfl); (focus exact rfl); focus (intro _; (refine zCatb ([kb k] ++ uv fm ++ uv tt) (uv n) (by simp only [List.length_append, List.length_cons, List.length_nil, sz_len]; omega) ?_); exact det_refl)
    refine gW ?_
    apply w_q; (focus exact rfl); (focus exact rfl); focus (intro _; (refine lo_conv tok rfl rfl rfl rfl w4 ?_); exact det_refl)
    apply w_q; (focus exact rfl); (focus exact rfl); focus (intro _; (refine lo_call h4 rfl (by repeat (first | exact rzs_nil | apply rzs_cons | exact rz_c | exact rz_nil rfl | apply rz_agg | exact rz_own rfl | apply rz_fn | exact rz_ptr rfl | apply rz_tup)) ?_; rintro _ rfl); exact det_refl)
    apply w_q; (focus exact rfl); (focus exact rfl); focus (intro _; (refine zCatb ([kb k] ++ uv fm ++ uv tt ++ uv n) (uv t.size) (by simp only [List.length_append, List.length_cons, List.length_nil, sz_len]; omega) ?_); exact det_refl)
    refine gW ?_
    apply w_q; (focus exact rfl); (focus exact rfl); focus (intro _; (refine zCatb ([kb k] ++ uv fm ++ uv tt ++ uv n ++ uv t.size) (t.data.toList) (by simp only [List.length_append, List.length_cons, List.length_nil, sz_len]; omega) ?_); exact det_refl)
    refine gW ?_
    refine w_nil ?_
    repeat (first | refine gG ?_ | refine zN1 (fun hlen => ?_) | refine zN2 (fun hlen => ?_) | refine zBx (fun _ => ?_))
    refine zCall (h5) ?_
    rintro _ rfl
    repeat (first | refine gG ?_ | refine zN1 (fun hlen => ?_) | refine zN2 (fun hlen => ?_) | refine zBx (fun _ => ?_))
    refine zCatb ([kb k] ++ uv fm ++ uv tt ++ uv n ++ uv t.size ++ t.data.toList) vb (by simp only [List.length_append, List.length_cons, List.length_nil, sz_len]; omega) ?_
    repeat (first | refine gG ?_ | refine zN1 (fun hlen => ?_) | refine zN2 (fun hlen => ?_) | refine zBx (fun _ => ?_))
    first | refine zR ?_ | refine zQ ?_
    simp only [List.append_assoc, List.cons_append, List.nil_append]; rfl
  · rw [if_neg hk] at hb ⊢
    have d1 : decide (k = 1) = false := decide_eq_false hk
    obtain ⟨kv, nv, tv, lv⟩ := v
    refine af_enter tok Try.func88 Try.ntmps88 Try.results88 rfl (by kernel_rfl) rfl rfl fun F hX => ?_
    repeat (first | refine gG ?_ | refine zN1 (fun hlen => ?_) | refine zN2 (fun hlen => ?_) | refine zBf ?_)
    refine ac_draw [1, 1, 1, 1, 1, 1, 1, 1, 1, 1, 1, 1, 1, 1, 1, 1, 1, 1, 1, 1, 1, 1, 1, 1, 1, 1, 1, 1, 1, 1] [0, 1, 2, 3, 4, 5, 6, 7, 8, 9, 10, 11, 12, 13, 14, 15, 16, 17, 18, 19, 20, 21, 22, 23, 24, 25, 26, 27, 28, 29] (by kernel_rfl) (by kernel_rfl) ?_
    refine gW ?_
    apply w_q; (focus exact rfl); (focus exact rfl); focus (intro _; (refine lo_conv tok rfl rfl rfl rfl rfl ?_); exact det_refl)
    refine gW ?_
    apply w_q; (focus exact rfl); (focus exact rfl); focus (intro _; (refine zStr [kb k] (one_kb k) rfl ?_); exact det_refl)
    refine gW ?_
    apply w_q; (focus exact rfl); (focus exact rfl); focus (intro _; (refine lo_conv tok rfl rfl rfl rfl w1 ?_); exact det_refl)
    apply w_q; (focus exact rfl); (focus exact rfl); focus (intro _; (refine lo_call h1 rfl (by repeat (first | exact rzs_nil | apply rzs_cons | exact rz_c | exact rz_nil rfl | apply rz_agg | exact rz_own rfl | apply rz_fn | exact rz_ptr rfl | apply rz_tup)) ?_; rintro _ rfl); exact det_refl)
    apply w_q; (focus exact rfl); (focus exact rfl); focus (intro _; (refine zCatb ([kb k]) (uv fm) (by simp only [List.length_append, List.length_cons, List.length_nil, sz_len]; omega) ?_); exact det_refl)
    refine gW ?_
    apply w_q; (focus exact rfl); (focus exact rfl); focus (intro _; (refine lo_conv tok rfl rfl rfl rfl w2 ?_); exact det_refl)
    apply w_q; (focus exact rfl); (focus exact rfl); focus (intro _; (refine lo_call h2 rfl (by repeat (first | exact rzs_nil | apply rzs_cons | exact rz_c | exact rz_nil rfl | apply rz_agg | exact rz_own rfl | apply rz_fn | exact rz_ptr rfl | apply rz_tup)) ?_; rintro _ rfl); exact det_refl)
    apply w_q; (focus exact rfl); (focus exact rfl); focus (intro _; (refine zCatb ([kb k] ++ uv fm) (uv tt) (by simp only [List.length_append, List.length_cons, List.length_nil, sz_len]; omega) ?_); exact det_refl)
    refine gW ?_
    apply w_q; (focus exact rfl); (focus exact rfl); focus (intro _; (refine lo_conv tok rfl rfl rfl rfl w3 ?_); exact det_refl)
    apply w_q; (focus exact rfl); (focus exact rfl); focus (intro _; (refine lo_call h3 rfl (by repeat (first | exact rzs_nil | apply rzs_cons | exact rz_c | exact rz_nil rfl | apply rz_agg | exact rz_own rfl | apply rz_fn | exact rz_ptr rfl | apply rz_tup)) ?_; rintro _ rfl); exact det_refl)
    apply w_q; (focus exact rfl); (focus exact rfl); focus (intro _; (refine zCatb ([kb k] ++ uv fm ++ uv tt) (uv n) (by simp only [List.length_append, List.length_cons, List.length_nil, sz_len]; omega) ?_); exact det_refl)
    refine gW ?_
    apply w_q; (focus exact rfl); (focus exact rfl); focus (intro _; (refine lo_conv tok rfl rfl rfl rfl w4 ?_); exact det_refl)
    apply w_q; (focus exact rfl); (focus exact rfl); focus (intro _; (refine lo_call h4 rfl (by repeat (first | exact rzs_nil | apply rzs_cons | exact rz_c | exact rz_nil rfl | apply rz_agg | exact rz_own rfl | apply rz_fn | exact rz_ptr rfl | apply rz_tup)) ?_; rintro _ rfl); exact det_refl)
    apply w_q; (focus exact rfl); (focus exact rfl); focus (intro _; (refine zCatb ([kb k] ++ uv fm ++ uv tt ++ uv n) (uv t.size) (by simp only [List.length_append, List.length_cons, List.length_nil, sz_len]; omega) ?_); exact det_refl)
    refine gW ?_
    apply w_q; (focus exact rfl); (focus exact rfl); focus (intro _; (refine zCatb ([kb k] ++ uv fm ++ uv tt ++ uv n ++ uv t.size) (t.data.toList) (by simp only [List.length_append, List.length_cons, List.length_nil, sz_len]; omega) ?_); exact det_refl)
    refine gW ?_
    refine w_nil ?_
    repeat (first | refine gG ?_ | refine zN1 (fun hlen => ?_) | refine zN2 (fun hlen => ?_) | refine zBx (fun _ => ?_))
    first | refine zR ?_ | refine zQ ?_
    simp only [List.append_assoc, List.cons_append, List.nil_append, List.append_nil]; rfl
end Go.Proofs.Ythgackidonocpaa
namespace Go.Proofs.Ythgackidonocpaa
open Go.RowKit
end Go.Proofs.Ythgackidonocpaa
namespace Go.Proofs.Ythgackidonocpaa
open Go.RowKit
theorem Par.check_3 {p : Par} (h : (decide (p.ref < 1) || decide (p.ticks < -1)) = true) : p.check = 3 := by unfold Par.check; rw [if_pos h]
theorem Par.check_2 {p : Par} (h : (decide (p.ref < 1) || decide (p.ticks < -1)) = false) (h2 : (decide ((60 : Int) < (p.box.length : Int)) || decide ((1000 : Int) < (p.wat.length : Int)) || decide ((1000 : Int) < (p.lnk.length : Int))) = true) : p.check = 2 := by unfold Par.check; rw [if_neg (by rw [h]; decide), if_pos h2]
theorem Par.check_s {p : Par} (h : (decide (p.ref < 1) || decide (p.ticks < -1)) = false) (h2 : (decide ((60 : Int) < (p.box.length : Int)) || decide ((1000 : Int) < (p.wat.length : Int)) || decide ((1000 : Int) < (p.lnk.length : Int))) = false) (h3 : ¬ p.sav.check = 0) : p.check = p.sav.check := by unfold Par.check; rw [if_neg (by rw [h]; decide), if_neg (by rw [h2]; decide), if_pos h3]
theorem Par.check_b {p : Par} (h : (decide (p.ref < 1) || decide (p.ticks < -1)) = false) (h2 : (decide ((60 : Int) < (p.box.length : Int)) || decide ((1000 : Int) < (p.wat.length : Int)) || decide ((1000 : Int) < (p.lnk.length : Int))) = false) (h3 : p.sav.check = 0) (h4 : ¬ errs (p.box.map Lt.check) = 0) : p.check = errs (p.box.map Lt.check) := by unfold Par.check; rw [if_neg (by rw [h]; decide), if_neg (by rw [h2]; decide), if_neg (fun g => g h3), if_pos h4]
theorem Par.check_l {p : Par} (h : (decide (p.ref < 1) || decide (p.ticks < -1)) = false) (h2 : (decide ((60 : Int) < (p.box.length : Int)) || decide ((1000 : Int) < (p.wat.length : Int)) || decide ((1000 : Int) < (p.lnk.length : Int))) = false) (h3 : p.sav.check = 0) (h4 : errs (p.box.map Lt.check) = 0) : p.check = if (p.wat.any low1 || p.lnk.any low1) = true then 3 else 0 := by unfold Par.check; rw [if_neg (by rw [h]; decide), if_neg (by rw [h2]; decide), if_neg (fun g => g h3), if_neg (fun g => g h4)]
theorem map_at {α : Type} (f : α → T) {l : List α} {k : Nat} {a : α} (h : l[k]? = some a) : (l.map f)[k * 1]? = some (f a) := by rw [Nat.mul_one, List.getElem?_map, h]; rfl
theorem int_at {l : List Int} {k : Nat} {a : Int} (h : l[k]? = some a) : (l.flatMap intTs)[k * 1]? = some (.lit (.int .i64 a)) := by
  have := flat_get intTs 1 (fun _ => rfl) (j := 0) h (by omega)
  simpa [intTs] using this
theorem any_mem {l : List Int} {n : Int} (h : n ∈ l) (hn : low1 n = true) : l.any low1 = true := List.any_eq_true.2 ⟨n, h, hn⟩
theorem any_none {l : List Int} (h : ∀ n ∈ l, low1 n = false) : l.any low1 = false := by
  rw [List.any_eq_false]
  intro n hn
  rw [h n hn]; decide
set_option maxRecDepth 100000 in
set_option maxHeartbeats 4000000 in
theorem checkParcel_af (p : Par) : AF Try.prog 44 [p.t] (· = .lit (.int .i64 p.check)) := by
  have k3 := @Par.check_3 p
  have k2 := @Par.check_2 p
  have ks := @Par.check_s p
  have kb := @Par.check_b p
  have kl := @Par.check_l p
  have hs := checkSaved_af p.sav
  obtain ⟨rf, sv, bx, tk, wt, lk⟩ := p
  dsimp only at k3 k2 ks kb kl hs
  generalize (Par.mk rf sv bx tk wt lk).check = ck at *
  generalize sv.check = cs at *
  obtain ⟨ac, st, ip⟩ := sv
  refine af_enter tok Try.func44 Try.ntmps44 Try.results44 rfl (by kernel_rfl) rfl rfl fun F hX => ?_
  cases d1 : decide (rf < 1)
  rotate_left
  · repeat (first | refine gG ?_ | refine zN1 (fun hlen => ?_) | refine zN2 (fun hlen => ?_) | refine zAl (fun _ => ?_) | refine zBf ?_)
    first | refine zR ?_ | refine zQ ?_
    rw [k3 (by rw [d1]; rfl)]; rfl
  cases d2 : decide (tk < -1)
  rotate_left
  · repeat (first | refine gG ?_ | refine zN1 (fun hlen => ?_) | refine zN2 (fun hlen => ?_) | refine zAl (fun _ => ?_) | refine zBf ?_)
    first | refine zR ?_ | refine zQ ?_
    rw [k3 (by rw [d1, d2]; rfl)]; rfl
  have j1 : (decide (rf < 1) || decide (tk < -1)) = false := by rw [d1, d2]; rfl
  cases d3 : decide ((60 : Int) < (bx.length : Int))
  rotate_left
  · repeat (first | refine gG ?_ | refine zN1 (fun hlen => ?_) | refine zN2 (fun hlen => ?_) | refine zAl (fun _ => ?_) | refine zBf ?_)
    first | refine zR ?_ | refine zQ ?_
    rw [k2 j1 (by rw [d3]; rfl)]; rfl
  cases d4 : decide ((1000 : Int) < (wt.length : Int))
  rotate_left
  · repeat (first | refine gG ?_ | refine zN1 (fun hlen => ?_) | refine zN2 (fun hlen => ?_) | refine zAl (fun _ => ?_) | refine zBf ?_)
    first | refine zR ?_ | refine zQ ?_
    rw [k2 j1 (by rw [d3, d4]; rfl)]; rfl
  cases d5 : decide ((1000 : Int) < (lk.length : Int))
  rotate_left
  · repeat (first | refine gG ?_ | refine zN1 (fun hlen => ?_) | refine zN2 (fun hlen => ?_) | refine zAl (fun _ => ?_) | refine zBf ?_)
    first | refine zR ?_ | refine zQ ?_
    rw [k2 j1 (by rw [d3, d4, d5]; rfl)]; rfl
  have j2 : (decide ((60 : Int) < (bx.length : Int)) || decide ((1000 : Int) < (wt.length : Int)) || decide ((1000 : Int) < (lk.length : Int))) = false := by rw [d3, d4, d5]; rfl
  have ks := ks j1 j2
  have kb := kb j1 j2
  have kl := kl j1 j2
  clear k3 k2 j1 j2
  repeat (first | refine gG ?_ | refine zN1 (fun hlen => ?_) | refine zN2 (fun hlen => ?_) | refine zAl (fun _ => ?_) | refine zBf ?_)
  refine zCall (hs) ?_
  rintro _ rfl
  cases c1 : decide (cs = 0)
  · repeat (first | refine gG ?_ | refine zN1 (fun hlen => ?_) | refine zN2 (fun hlen => ?_) | refine zAl (fun _ => ?_) | refine zBx (fun _ => ?_))
    first | refine zR ?_ | refine zQ ?_
    rw [ks (of_decide_eq_false c1)]; rfl
  have hs0 := of_decide_eq_true c1
  repeat (first | refine gG ?_ | refine zN1 (fun hlen => ?_) | refine zN2 (fun hlen => ?_) | refine zAl (fun _ => ?_) | refine zBx (fun _ => ?_))
  refine x_loop [2, 5, 6, 46, 47, 48, 49, 50, 51, 52, 53, 54, 55] (fun k : Nat => [(46, .c (.lit (.int .i64 k)))]) (fun _ => []) (fun k => k ≤ bx.length ∧ ∀ x ∈ bx.take k, Lt.check x = 0) (fun k => bx.length - k) 0 ⟨Nat.zero_le _, by simp⟩ ⟨rfl, trivial⟩ rfl ?_
  rintro k ⟨hk, hz⟩
  repeat (first | refine gG ?_ | refine zN1 (fun hlen => ?_) | refine zN2 (fun hlen => ?_) | refine zAl (fun _ => ?_) | refine zBx (fun _ => ?_))
  refine x_cond rfl (fun h => ?_) (fun h => ?_)
  · have hk' : k < bx.length := by simpa using h
    obtain ⟨a, ha⟩ := nth hk'
    have hs := checkLetter_af a
    have he := errs_at Lt.check hz ha
    have hsn := take_snoc (p := fun x => Lt.check x = 0) ha hz
    repeat (first | refine gG ?_ | refine zN1 (fun hlen => ?_) | refine zN2 (fun hlen => ?_) | refine zAl (fun _ => ?_) | refine zBx (fun _ => ?_))
    refine zIx (k) (hk') ?_
    repeat (first | refine gG ?_ | refine zN1 (fun hlen => ?_) | refine zN2 (fun hlen => ?_) | refine zAl (fun _ => ?_) | refine zBx (fun _ => ?_))
    refine zEl (flat_at Lt.ts 9 Lt.ts_len ha) (Lt.ts_len a) ?_
    generalize hca : a.check = ca at *
    obtain ⟨ka, fa, ta, na, sa, ⟨kv, nv, tv, lv⟩⟩ := a
    repeat (first | refine gG ?_ | refine zN1 (fun hlen => ?_) | refine zN2 (fun hlen => ?_) | refine zAl (fun _ => ?_) | refine zBx (fun _ => ?_))
    refine zCall (hs) ?_
    rintro _ rfl
    cases c2 : decide (ca = 0)
    · have c0 : ¬ ca = 0 := of_decide_eq_false c2
      repeat (first | refine gG ?_ | refine zN1 (fun hlen => ?_) | refine zN2 (fun hlen => ?_) | refine zAl (fun _ => ?_) | refine zBx (fun _ => ?_))
      first | refine zR ?_ | refine zQ ?_
      rw [kb hs0 (by rw [he c0]; exact c0), he c0]; rfl
    · have c0 : ca = 0 := of_decide_eq_true c2
      repeat (first | refine gG ?_ | refine zN1 (fun hlen => ?_) | refine zN2 (fun hlen => ?_) | refine zAl (fun _ => ?_) | refine zBx (fun _ => ?_))
      exact ⟨k + 1, ⟨hk', hsn c0⟩, by omega, x_wkd 0 ⟨rfl, trivial⟩ rfl (by repeat (first | exact ag_refl | refine ag_upd rfl ?_ | refine ag_at rfl rfl ?_))⟩
  · have hk' : k = bx.length := by have : ¬ k < bx.length := by simpa using h
                                   omega
    subst hk'
    rw [List.take_length] at hz
    have kl := kl hs0 (errs_all Lt.check hz)
    repeat (first | refine gG ?_ | refine zN1 (fun hlen => ?_) | refine zN2 (fun hlen => ?_) | refine zAl (fun _ => ?_) | refine zBx (fun _ => ?_))
    refine x_loop [2, 8, 10, 62, 63, 64, 65, 66, 67, 68, 69, 70, 71, 72, 73, 74, 75] (fun k : Nat => [(62, .c (.lit (.int .i64 k)))]) (fun _ => []) (fun k => k ≤ 2 ∧ ∀ l ∈ [wt, lk].take k, l.any low1 = false) (fun k => 2 - k) 0 ⟨Nat.zero_le _, by simp⟩ ⟨rfl, trivial⟩ rfl ?_
    rintro k ⟨hk, hz2⟩
    repeat (first | refine gG ?_ | refine zN1 (fun hlen => ?_) | refine zN2 (fun hlen => ?_) | refine zAl (fun _ => ?_) | refine zBx (fun _ => ?_))
    refine x_cond rfl (fun h => ?_) (fun h => ?_)
    · have hk' : k < 2 := by have := of_decide_eq_true h; omega
      obtain ⟨a, ha⟩ := nth (l := [wt, lk]) hk'
      have hsn2 := take_snoc (p := fun l : List Int => l.any low1 = false) ha hz2
      have ham : a = wt ∨ a = lk := by have := List.mem_of_getElem? ha; simpa using this
      repeat (first | refine gG ?_ | refine zN1 (fun hlen => ?_) | refine zN2 (fun hlen => ?_) | refine zAl (fun _ => ?_) | refine zBx (fun _ => ?_))
      refine zIx k hk' ?_
      repeat (first | refine gG ?_ | refine zN1 (fun hlen => ?_) | refine zN2 (fun hlen => ?_) | refine zAl (fun _ => ?_) | refine zBx (fun _ => ?_))
      refine zEl1 (map_at intRow ha) ?_
      repeat (first | refine gG ?_ | refine zN1 (fun hlen => ?_) | refine zN2 (fun hlen => ?_) | refine zAl (fun _ => ?_) | refine zBx (fun _ => ?_))
      refine x_loop [2, 10, 68, 69, 70, 71, 72, 73, 74] (fun j : Nat => [(68, .c (.lit (.int .i64 j)))]) (fun _ => []) (fun j => j ≤ a.length ∧ ∀ n ∈ a.take j, low1 n = false) (fun j => a.length - j) 0 ⟨Nat.zero_le _, by simp⟩ ⟨rfl, trivial⟩ rfl ?_
      rintro j ⟨hj, hz3⟩
      repeat (first | refine gG ?_ | refine zN1 (fun hlen => ?_) | refine zN2 (fun hlen => ?_) | refine zAl (fun _ => ?_) | refine zBx (fun _ => ?_))
      refine x_cond rfl (fun h => ?_) (fun h => ?_)
      · have hj' : j < a.length := by simpa using h
        obtain ⟨n, hn⟩ := nth hj'
        have hsn3 := take_snoc (p := fun n => low1 n = false) hn hz3
        repeat (first | refine gG ?_ | refine zN1 (fun hlen => ?_) | refine zN2 (fun hlen => ?_) | refine zAl (fun _ => ?_) | refine zBx (fun _ => ?_))
        refine zIx j hj' ?_
        repeat (first | refine gG ?_ | refine zN1 (fun hlen => ?_) | refine zN2 (fun hlen => ?_) | refine zAl (fun _ => ?_) | refine zBx (fun _ => ?_))
        refine zEl1 (int_at hn) ?_
        cases c3 : decide (n < 1)
        · repeat (first | refine gG ?_ | refine zN1 (fun hlen => ?_) | refine zN2 (fun hlen => ?_) | refine zAl (fun _ => ?_) | refine zBx (fun _ => ?_))
          exact ⟨j + 1, ⟨hj', hsn3 c3⟩, by omega, x_wkd 0 ⟨rfl, trivial⟩ rfl (by repeat (first | exact ag_refl | refine ag_upd rfl ?_ | refine ag_at rfl rfl ?_))⟩
        · repeat (first | refine gG ?_ | refine zN1 (fun hlen => ?_) | refine zN2 (fun hlen => ?_) | refine zAl (fun _ => ?_) | refine zBx (fun _ => ?_))
          first | refine zR ?_ | refine zQ ?_
          have := any_mem (List.mem_of_getElem? hn) c3
          rw [kl, if_pos]
          · rfl
          · rcases ham with rfl | rfl
            · rw [this]; rfl
            · rw [this, Bool.or_true]
      · have hj' : j = a.length := by have : ¬ j < a.length := by simpa using h
                                      omega
        subst hj'
        rw [List.take_length] at hz3
        repeat (first | refine gG ?_ | refine zN1 (fun hlen => ?_) | refine zN2 (fun hlen => ?_) | refine zAl (fun _ => ?_) | refine zBx (fun _ => ?_))
        exact ⟨k + 1, ⟨hk', hsn2 (any_none hz3)⟩, by omega, x_wkd 0 ⟨rfl, trivial⟩ rfl (by repeat (first | exact ag_refl | refine ag_upd rfl ?_ | refine ag_at rfl rfl ?_))⟩
    · have hk' : k = 2 := by have := of_decide_eq_false h; omega
      subst hk'
      repeat (first | refine gG ?_ | refine zN1 (fun hlen => ?_) | refine zN2 (fun hlen => ?_) | refine zAl (fun _ => ?_) | refine zBx (fun _ => ?_))
      first | refine zR ?_ | refine zQ ?_
      rw [kl, if_neg]
      · rfl
      · rw [hz2 wt (by simp), hz2 lk (by simp)]; decide
set_option maxRecDepth 100000 in
set_option maxHeartbeats 2000000 in
theorem listL_ag (f : FuncId) (enc : Lt → List UInt8) (l : List Lt) (hf : ∀ x ∈ l, ∀ (v : Value) (b : List UInt8), b.length + (enc x).length ≤ 1099511627776 → AG Try.prog f [.own 0 v, .c (.agg (Lt.ts x))] [.row v 5 1 b.length (byts b)] (Grew 5 (b ++ enc x)))
    (v : Value) (b : List UInt8) (hn : l.length < 9223372036854775808) (hb : b.length + (uv l.length ++ l.flatMap enc).length ≤ 1099511627776) :
    AG Try.prog 176 [.own 0 v, .c (letRow l), .fn (.func f) []] [.row v 5 1 b.length (byts b)] (Grew 5 (b ++ (uv l.length ++ l.flatMap enc))) := by
  have hc := nat_ag v b l.length hn (by omega)
  refine ag_enter 1 tok Try.func176 Try.ntmps176 Try.results176 rfl (by kernel_rfl) rfl fun F => ?_
  repeat (first | refine gG ?_ | refine zN1 (fun hlen => ?_) | refine zN2 (fun hlen => ?_) | refine zAl (fun _ => ?_))
  refine zCallG [0] hc ?_
  rintro _ _ ⟨v', rfl, rfl⟩
  refine ⟨.own 0 v', _, re_own, rfl, rfl, ?_⟩
  repeat (first | refine gG ?_ | refine zN1 (fun hlen => ?_) | refine zN2 (fun hlen => ?_) | refine zAl (fun _ => ?_))
  refine x_loop [0, 8, 15, 16, 17, 18, 19, 20, 21, 22, 23] (fun y : Nat × Value => [(15, .c (.lit (.int .i64 (y.1 : Nat)))), (0, .own 0 y.2)]) (fun y => [.row y.2 5 1 (b ++ (uv l.length ++ (l.take y.1).flatMap enc)).length (byts (b ++ (uv l.length ++ (l.take y.1).flatMap enc)))])
    (fun y => y.1 ≤ l.length) (fun y => l.length - y.1) (0, v') (Nat.zero_le _) ⟨rfl, rfl, trivial⟩ (by simp) ?_
  rintro ⟨k, u⟩ hk
  dsimp only at hk ⊢
  repeat (first | refine gG ?_ | refine zN1 (fun hlen => ?_) | refine zN2 (fun hlen => ?_) | refine zAl (fun _ => ?_))
  refine x_cond rfl (fun h => ?_) (fun h => ?_)
  · have hk' : k < l.length := by simpa using h
    obtain ⟨a, ha⟩ := nth hk'
    have hsn := flat_snoc' enc ha
    have hle : ((l.take (k + 1)).flatMap enc).length ≤ (l.flatMap enc).length := by
      have := congrArg (fun r => (List.flatMap enc r).length) (List.take_append_drop (k + 1) l)
      simp only [List.flatMap_append, List.length_append] at this
      omega
    have hca := hf a (List.mem_of_getElem? ha) u (b ++ (uv l.length ++ (l.take k).flatMap enc)) (by
      rw [hsn] at hle
      simp only [List.length_append] at hle hb ⊢
      omega)
    repeat (first | refine gG ?_ | refine zN1 (fun hlen => ?_) | refine zN2 (fun hlen => ?_) | refine zAl (fun _ => ?_))
    refine zIx (k) (hk') ?_
    repeat (first | refine gG ?_ | refine zN1 (fun hlen => ?_) | refine zN2 (fun hlen => ?_) | refine zAl (fun _ => ?_))
    refine zEl (flat_at Lt.ts 9 Lt.ts_len ha) (Lt.ts_len a) ?_
    obtain ⟨ka, fa, ta, na, sa, ⟨kv, nv, tv, lv⟩⟩ := a
    repeat (first | refine gG ?_ | refine zN1 (fun hlen => ?_) | refine zN2 (fun hlen => ?_) | refine zAl (fun _ => ?_))
    refine zCallG [0] hca ?_
    rintro _ _ ⟨u', rfl, rfl⟩
    refine ⟨.own 0 u', _, re_own, rfl, rfl, ?_⟩
    repeat (first | refine gG ?_ | refine zN1 (fun hlen => ?_) | refine zN2 (fun hlen => ?_) | refine zAl (fun _ => ?_))
    exact ⟨(k + 1, u'), hk', by simp only; omega, x_wkd 1 ⟨rfl, rfl, trivial⟩ (by simp only [hsn, List.append_assoc]; rfl) (by repeat (first | exact ag_refl | refine ag_upd rfl ?_ | refine ag_at rfl rfl ?_))⟩
  · have hk' : k = l.length := by have : ¬ k < l.length := by simpa using h
                                  omega
    subst hk'
    repeat (first | refine gG ?_ | refine zN1 (fun hlen => ?_) | refine zN2 (fun hlen => ?_) | refine zAl (fun _ => ?_))
    refine zG ?_
    refine ⟨_, rfl, ?_⟩
    rw [List.take_length]
set_option maxRecDepth 100000 in
set_option maxHeartbeats 2000000 in
theorem listN_ag (f : FuncId) (enc : Int → List UInt8) (l : List Int) (hf : ∀ x ∈ l, ∀ (v : Value) (b : List UInt8), b.length + (enc x).length ≤ 1099511627776 → AG Try.prog f [.own 0 v, .c (.lit (.int .i64 x))] [.row v 5 1 b.length (byts b)] (Grew 5 (b ++ enc x)))
    (v : Value) (b : List UInt8) (hn : l.length < 9223372036854775808) (hb : b.length + (uv l.length ++ l.flatMap enc).length ≤ 1099511627776) :
    AG Try.prog 177 [.own 0 v, .c (intRow l), .fn (.func f) []] [.row v 5 1 b.length (byts b)] (Grew 5 (b ++ (uv l.length ++ l.flatMap enc))) := by
  have hc := nat_ag v b l.length hn (by omega)
  refine ag_enter 1 tok Try.func177 Try.ntmps177 Try.results177 rfl (by kernel_rfl) rfl fun F => ?_
  repeat (first | refine gG ?_ | refine zN1 (fun hlen => ?_) | refine zN2 (fun hlen => ?_))
  refine zCallG [0] hc ?_
  rintro _ _ ⟨v', rfl, rfl⟩
  refine ⟨.own 0 v', _, re_own, rfl, rfl, ?_⟩
  repeat (first | refine gG ?_ | refine zN1 (fun hlen => ?_) | refine zN2 (fun hlen => ?_))
  refine x_loop [0, 8, 15, 16, 17, 18, 19, 20, 21, 22, 23] (fun y : Nat × Value => [(15, .c (.lit (.int .i64 (y.1 : Nat)))), (0, .own 0 y.2)]) (fun y => [.row y.2 5 1 (b ++ (uv l.length ++ (l.take y.1).flatMap enc)).length (byts (b ++ (uv l.length ++ (l.take y.1).flatMap enc)))])
    (fun y => y.1 ≤ l.length) (fun y => l.length - y.1) (0, v') (Nat.zero_le _) ⟨rfl, rfl, trivial⟩ (by simp) ?_
  rintro ⟨k, u⟩ hk
  dsimp only at hk ⊢
  repeat (first | refine gG ?_ | refine zN1 (fun hlen => ?_) | refine zN2 (fun hlen => ?_))
  refine x_cond rfl (fun h => ?_) (fun h => ?_)
  · have hk' : k < l.length := by simpa using h
    obtain ⟨a, ha⟩ := nth hk'
    have hsn := flat_snoc' enc ha
    have hle : ((l.take (k + 1)).flatMap enc).length ≤ (l.flatMap enc).length := by
      have := congrArg (fun r => (List.flatMap enc r).length) (List.take_append_drop (k + 1) l)
      simp only [List.flatMap_append, List.length_append] at this
      omega
    have hca := hf a (List.mem_of_getElem? ha) u (b ++ (uv l.length ++ (l.take k).flatMap enc)) (by
      rw [hsn] at hle
      simp only [List.length_append] at hle hb ⊢
      omega)
    repeat (first | refine gG ?_ | refine zN1 (fun hlen => ?_) | refine zN2 (fun hlen => ?_))
    refine zIx k hk' ?_
    repeat (first | refine gG ?_ | refine zN1 (fun hlen => ?_) | refine zN2 (fun hlen => ?_))
    refine zEl1 (int_at ha) ?_
    repeat (first | refine gG ?_ | refine zN1 (fun hlen => ?_) | refine zN2 (fun hlen => ?_))
    refine zCallG [0] hca ?_
    rintro _ _ ⟨u', rfl, rfl⟩
    refine ⟨.own 0 u', _, re_own, rfl, rfl, ?_⟩
    repeat (first | refine gG ?_ | refine zN1 (fun hlen => ?_) | refine zN2 (fun hlen => ?_))
    exact ⟨(k + 1, u'), hk', by simp only; omega, x_wkd 1 ⟨rfl, rfl, trivial⟩ (by simp only [hsn, List.append_assoc]; rfl) (by repeat (first | exact ag_refl | refine ag_upd rfl ?_ | refine ag_at rfl rfl ?_))⟩
  · have hk' : k = l.length := by have : ¬ k < l.length := by simpa using h
                                  omega
    subst hk'
    repeat (first | refine gG ?_ | refine zN1 (fun hlen => ?_) | refine zN2 (fun hlen => ?_))
    refine zG ?_
    refine ⟨_, rfl, ?_⟩
    rw [List.take_length]
theorem appendLetter_ag' {x : Lt} (h : x.check = 0) (hok : x.ok) (w : Value) (b : List UInt8) (hb : b.length + x.bytes.length ≤ 1099511627776) :
    AG Try.prog 87 [.own 0 w, .c (.agg (Lt.ts x))] [.row w 5 1 b.length (byts b)] (Grew 5 (b ++ x.bytes)) := by
  obtain ⟨k, fm, tt, n, t, v⟩ := x
  have hR := Lt.right h
  obtain ⟨a1, a2, a3, a4, a5⟩ := hok
  unfold inI at a1 a2 a3
  obtain ⟨fm, rfl⟩ := nat_of hR.fm0
  obtain ⟨tt, rfl⟩ := nat_of hR.tt0
  obtain ⟨n, rfl⟩ := nat_of hR.n0.1
  exact appendLetter_ag (k := k) (t := t) (fm := fm) (tt := tt) (n := n) (by omega) (by omega) (by omega) a4 w b hb
theorem natI_ag {n : Int} (h : 1 ≤ n) (hn : inI n) (v : Value) (b : List UInt8) (hb : b.length + (nb n).length ≤ 1099511627776) : AG Try.prog 169 [.own 0 v, .c (.lit (.int .i64 n))] [.row v 5 1 b.length (byts b)] (Grew 5 (b ++ nb n)) := by
  unfold inI at hn
  obtain ⟨m, rfl⟩ := nat_of (show 0 ≤ n by omega)
  have := nat_ag v b m (by omega) (by omega)
  simpa [nb] using this
theorem nb_le {n : Int} (hn : inI n) : (nb n).length ≤ 10 := by unfold inI at hn; exact uv_len64 (by omega)
theorem Par.bytes_le {p : Par} (hs : p.Small) (h : p.Right) : p.bytes.length ≤ 71000000000 := by
  have h0 := Sav.bytes_le hs.sav (Sav.right h.sav)
  have h1 := flat_le Lt.bytes 40000000 (l := p.box) fun x hx => (hs.box x hx).2.2.1
  have h2 := flat_le nb 10 (l := p.wat) fun n hn => nb_le (hs.wat n hn)
  have h3 := flat_le nb 10 (l := p.lnk) fun n hn => nb_le (hs.lnk n hn)
  obtain ⟨a1, a2, a3, a4, a5, a6, a7, a8⟩ := h
  have h6 : p.box.length * 40000000 ≤ 60 * 40000000 := Nat.mul_le_mul_right _ a4
  have h7 : p.wat.length * 10 ≤ 1000 * 10 := Nat.mul_le_mul_right _ a7
  have h8 : p.lnk.length * 10 ≤ 1000 * 10 := Nat.mul_le_mul_right _ a8
  have hr := hs.ref
  unfold inI at hr
  have u1 := uv_len64 (n := p.ref.toNat) (by omega)
  have u2 := uv_len64 (n := p.box.length) (by omega)
  have u3 := uv_len64 (n := p.wat.length) (by omega)
  have u4 := uv_len64 (n := p.lnk.length) (by omega)
  have u5 := uv_len64 (zz_lt hs.ticks)
  simp only [Par.bytes, List.length_append]
  omega
set_option maxRecDepth 100000 in
set_option maxHeartbeats 4000000 in
theorem appendParcel_ag (p : Par) (hs : p.Small) (h : p.Right) (v : Value) (b : List UInt8) (hb : b.length + p.bytes.length ≤ 1099511627776) :
    AG Try.prog 106 [.own 0 v, .c p.t] [.row v 5 1 b.length (byts b)] (Grew 5 (b ++ p.bytes)) := by
  have hsr := Sav.right h.sav
  obtain ⟨rf, sv, bx, tk, wt, lk⟩ := p
  obtain ⟨a1, a2, a3, a4, a5, a6, a7, a8⟩ := h
  obtain ⟨b1, b2, b3, b4, b5, b6⟩ := hs
  dsimp only at hsr a1 a2 a3 a4 a5 a6 a7 a8 b1 b2 b3 b4 b5 b6
  have hrf := b3
  unfold inI at hrf
  obtain ⟨rf, rfl⟩ := nat_of (show 0 ≤ rf by omega)
  have e0 : (Par.mk rf sv bx tk wt lk).bytes = uv rf ++ (sv.bytes ++ (uv bx.length ++ (bx.flatMap Lt.bytes ++ (uv (zz tk) ++ (uv wt.length ++ (wt.flatMap nb ++ (uv lk.length ++ lk.flatMap nb))))))) := rfl
  rw [e0] at hb ⊢
  simp only [List.length_append] at hb
  have c1 := nat_ag v b rf (by omega) (by omega)
  have c2 := fun v2 => appendSaved_ag sv (fun v hv => (b1.state v hv).1) (fun x hx => (b1.inp x hx).1) hsr.states hsr.inps v2 (b ++ uv rf) (by simp only [List.length_append, List.length_cons, List.length_nil, sz_len]; omega)
  have c3 := fun v3 => listL_ag 87 Lt.bytes bx (fun x hx v b hb => appendLetter_ag' (a3 x hx) (b2 x hx).1 v b hb) v3 (b ++ uv rf ++ sv.bytes) (by omega) (by simp only [List.length_append, List.length_cons, List.length_nil, sz_len]; omega)
  have c4 := fun v4 => int_ag v4 (b ++ uv rf ++ sv.bytes ++ (uv bx.length ++ bx.flatMap Lt.bytes)) tk b4 (by simp only [List.length_append, List.length_cons, List.length_nil, sz_len]; omega)
  have c5 := fun v5 => listN_ag 169 nb wt (fun x hx v b hb => natI_ag (a5 x hx) (b5 x hx) v b hb) v5 (b ++ uv rf ++ sv.bytes ++ (uv bx.length ++ bx.flatMap Lt.bytes) ++ uv (zz tk)) (by omega) (by simp only [List.length_append, List.length_cons, List.length_nil, sz_len]; omega)
  have c6 := fun v6 => listN_ag 169 nb lk (fun x hx v b hb => natI_ag (a6 x hx) (b6 x hx) v b hb) v6 (b ++ uv rf ++ sv.bytes ++ (uv bx.length ++ bx.flatMap Lt.bytes) ++ uv (zz tk) ++ (uv wt.length ++ wt.flatMap nb)) (by omega) (by simp only [List.length_append, List.length_cons, List.length_nil, sz_len]; omega)
  obtain ⟨ac, st, ip⟩ := sv
  refine ag_enter 1 tok Try.func106 Try.ntmps106 Try.results106 rfl (by kernel_rfl) rfl fun F => ?_
  repeat (first | refine gG ?_ | refine zBf ?_)
  refine ac_draw [0, 0, 0, 2, 0, 0, 2, 0, 0, 2, 0] [0, 1, 2, 4, 5, 7, 8, 3, 6, 9, 10] (by kernel_rfl) (by kernel_rfl) ?_
  refine gW ?_
  apply w_l; (focus exact rfl); (focus exact rfl); (refine zCallG [0] c1 ?_; rintro _ _ ⟨v', rfl, rfl⟩; refine ⟨.own 0 v', _, re_own, rfl, rfl, ?_⟩)
  apply w_l; (focus exact rfl); (focus exact rfl); (refine zCallG [0] (c2 _) ?_; rintro _ _ ⟨v', rfl, rfl⟩; refine ⟨.own 0 v', _, re_own, rfl, rfl, ?_⟩)
  apply w_l; (focus exact rfl); (focus exact rfl); (refine zCallG [0] (c3 _) ?_; rintro _ _ ⟨v', rfl, rfl⟩; refine ⟨.own 0 v', _, re_own, rfl, rfl, ?_⟩)
  refine gW ?_
  refine w_nil ?_
  repeat (first | refine gG ?_ | refine zBx (fun _ => ?_))
  refine ac_draw [0, 0, 0, 2, 0, 0, 2, 0, 0, 2, 0] [0, 1, 2, 4, 5, 7, 8, 3, 6, 9, 10] (by kernel_rfl) (by kernel_rfl) ?_
  refine gW ?_
  apply w_l; (focus exact rfl); (focus exact rfl); (refine zCallG [0] (c4 _) ?_; rintro _ _ ⟨v', rfl, rfl⟩; refine ⟨.own 0 v', _, re_own, rfl, rfl, ?_⟩)
  apply w_l; (focus exact rfl); (focus exact rfl); (refine zCallG [0] (c5 _) ?_; rintro _ _ ⟨v', rfl, rfl⟩; refine ⟨.own 0 v', _, re_own, rfl, rfl, ?_⟩)
  apply w_l; (focus exact rfl); (focus exact rfl); (refine zCallG [0] (c6 _) ?_; rintro _ _ ⟨v', rfl, rfl⟩; refine ⟨.own 0 v', _, re_own, rfl, rfl, ?_⟩)
  refine gW ?_
  refine w_nil ?_
  repeat (first | refine gG ?_ | refine zBx (fun _ => ?_))
  refine zG ?_
  exact ⟨_, rfl, by simp only [List.append_assoc]⟩
set_option maxRecDepth 100000 in
set_option maxHeartbeats 4000000 in
theorem parcelW_af (p : Par) (hs : p.Small) : AF Try.prog 42 [p.t] (Outs2 p.out p.check) := by
  have hw : AF Try.prog 105 [p.t, .fn (.func 44) [], .fn (.func 106) []] (Outs2 p.out p.check) := by
    have hc := checkParcel_af p
    unfold Par.out
    by_cases hyes : p.check = 0
    · rw [if_pos hyes]
      have hR := Par.right hyes
      have hbl := Par.bytes_le hs hR
      have ha := ag_nil (Nat.succ_pos 0) (appendParcel_ag p hs hR (.slice none 0 0) [] (by simp only [List.length_nil]; omega))
      rw [List.nil_append] at ha
      obtain ⟨rf, ⟨ac, st, ip⟩, bx, tk, wt, lk⟩ := p
      generalize (Par.mk rf ⟨ac, st, ip⟩ bx tk wt lk).bytes = o at *
      rw [hyes] at hc ⊢
      refine af_enter tok Try.func105 Try.ntmps105 Try.results105 rfl (by kernel_rfl) rfl rfl fun F hX => ?_
      repeat (first | refine gG ?_ | refine zBf ?_)
      refine zCallc (hc) ?_
      rintro _ rfl
      repeat (first | refine gG ?_ | refine zBx (fun _ => ?_))
      refine zCallGc [] ha ?_
      rintro _ _ ⟨v', rfl, rfl⟩
      refine ⟨.own 0 v', _, re_own, rfl, rfl, ?_⟩
      repeat (first | refine gG ?_ | refine zBx (fun _ => ?_))
      first | refine zR ?_ | refine zQ ?_
      rfl
    · rw [if_neg hyes]
      have d1 : decide (p.check = 0) = false := decide_eq_false hyes
      generalize p.check = e at *
      obtain ⟨rf, ⟨ac, st, ip⟩, bx, tk, wt, lk⟩ := p
      refine af_enter tok Try.func105 Try.ntmps105 Try.results105 rfl (by kernel_rfl) rfl rfl fun F hX => ?_
      repeat (first | refine gG ?_ | refine zBf ?_)
      refine zCallc (hc) ?_
      rintro _ rfl
      repeat (first | refine gG ?_ | refine zBx (fun _ => ?_))
      first | refine zR (ts := [bytRow [], .lit (.int .i64 e)]) ?_ | refine zQ (ts := [bytRow [], .lit (.int .i64 e)]) ?_
      rfl
  generalize p.out = o at *
  generalize p.check = e at *
  obtain ⟨rf, ⟨ac, st, ip⟩, bx, tk, wt, lk⟩ := p
  refine af_enter tok Try.func42 Try.ntmps42 Try.results42 rfl (by kernel_rfl) rfl rfl fun F hX => ?_
  repeat (first | refine gG ?_ | refine zBf ?_)
  refine zCall (hw) ?_
  rintro _ rfl
  repeat (first | refine gG ?_ | refine zBx (fun _ => ?_))
  first | refine zR ?_ | refine zQ ?_
  rfl
end Go.Proofs.Ythgackidonocpaa
namespace Go.Proofs.Ythgackidonocpaa
open Go.RowKit
section
variable {P : Program} {F : Frm} {d : Option Tmp} {ty : TypeId} {pos : String} {aft : Array Edge} {g : Option (Nat × Bool)} {ρ : Operand → AV} {hp : List Blk} {K : AV → List Blk → Prop}
theorem zMin {x y : Operand} {t t' : TypeId} {k k' : IntKind} {a b : Int} (h : K (.c (.lit (.int k (min a b)))) hp) (hx : ρ x = .c (.lit (.int k a)) := by exact rfl) (hy : ρ y = .c (.lit (.int k' b)) := by exact rfl) : LO P F ⟨d, .call { callee := .builtin .min, args := #[x, y], argTypes := #[t, t'] }, ty, pos, aft, g⟩ ρ hp K := by
  refine LO.same (fun M e w he hh => ?_) h
  have h1 := he x (by simp [Op.operands, Call.operands])
  have h2 := he y (by simp [Op.operands, Call.operands])
  rw [hx] at h1
  rw [hy] at h2
  simp only [RA, RT] at h1 h2
  refine ⟨.int k (min a b), ?_, by simp only [RA, RT]⟩
  simp [execOp, resolve, invoke, builtin, h1, h2, Go.Lib.run_min_ints]
end
end Go.Proofs.Ythgackidonocpaa
namespace Go.Proofs.Ythgackidonocpaa
open Go.RowKit
theorem minl_low : ∀ (l : List Int) (a : Int), decide (l.foldl min a < 1) = (low1 a || l.any low1)
  | [], a => by rw [List.any_nil, Bool.or_false]; rfl
  | b :: l, a => by
    rw [List.foldl_cons, minl_low l (min a b), List.any_cons]
    have : low1 (min a b) = (low1 a || low1 b) := by
      simp only [low1]
      by_cases h1 : a < 1
      · rw [decide_eq_true h1, Bool.true_or]; exact decide_eq_true (by omega)
      · by_cases h2 : b < 1
        · rw [decide_eq_true h2, Bool.or_true]; exact decide_eq_true (by omega)
        · rw [decide_eq_false h1, decide_eq_false h2]; exact decide_eq_false (by omega)
    rw [this, Bool.or_assoc]
theorem foldl_snoc {l : List Int} {k : Nat} {a b : Int} (h : l[k]? = some b) : (l.take (k + 1)).foldl min a = min ((l.take k).foldl min a) b := by
  obtain ⟨h1, rfl⟩ := List.getElem?_eq_some_iff.1 h
  rw [List.take_succ_eq_append_getElem h1, List.foldl_append]
  rfl
set_option maxRecDepth 100000 in
set_option maxHeartbeats 4000000 in
theorem min_af (a : Int) (l : List Int) : AF Try.prog 109 [intRow (a :: l)] (· = .lit (.int .i64 (l.foldl min a))) := by
  have hll : (a :: l).length = l.length + 1 := rfl
  have d0 : decide (((a :: l).length : Int) < 1) = false := decide_eq_false (by simp only [List.length_cons]; omega)
  refine af_enter tok Try.func109 Try.ntmps109 Try.results109 rfl (by kernel_rfl) rfl rfl fun F hX => ?_
  repeat (first | refine gG ?_ | refine zN1 (fun hlen => ?_) | refine zN2 (fun hlen => ?_))
  refine zIx 0 (Nat.succ_pos _) ?_
  repeat (first | refine gG ?_ | refine zN1 (fun hlen => ?_) | refine zN2 (fun hlen => ?_))
  refine x_loop [3, 4, 12, 13, 14, 15, 16, 17, 18, 19, 20, 21, 22, 23] (fun k : Nat => [(4, .c (.lit (.int .i64 ((k + 1 : Nat) : Int)))), (3, .c (.lit (.int .i64 ((l.take k).foldl min a))))]) (fun _ => []) (fun k => k ≤ l.length) (fun k => l.length - k) 0 (Nat.zero_le _) ⟨rfl, rfl, trivial⟩ rfl ?_
  intro k hk
  repeat (first | refine gG ?_ | refine zN1 (fun hlen => ?_) | refine zN2 (fun hlen => ?_))
  refine x_cond rfl (fun h => ?_) (fun h => ?_)
  · have hk' : k < l.length := by have := of_decide_eq_true h; simp only [List.length_cons] at this; omega
    obtain ⟨b, hb⟩ := nth hk'
    have hb' : (a :: l)[k + 1]? = some b := by simpa using hb
    repeat (first | refine gG ?_ | refine zN1 (fun hlen => ?_) | refine zN2 (fun hlen => ?_))
    refine zIx (k + 1) (show k + 1 < (a :: l).length by simp only [List.length_cons]; omega) ?_
    repeat (first | refine gG ?_ | refine zN1 (fun hlen => ?_) | refine zN2 (fun hlen => ?_))
    refine zEl1 (int_at hb') ?_
    repeat (first | refine gG ?_ | refine zN1 (fun hlen => ?_) | refine zN2 (fun hlen => ?_))
    refine zMin ?_
    repeat (first | refine gG ?_ | refine zN1 (fun hlen => ?_) | refine zN2 (fun hlen => ?_))
    exact ⟨k + 1, hk', by omega, x_wkd 0 ⟨rfl, by rw [foldl_snoc hb]; rfl, trivial⟩ rfl (by repeat (first | exact ag_refl | refine ag_upd rfl ?_ | refine ag_at rfl rfl ?_))⟩
  · have hk' : k = l.length := by have := of_decide_eq_false h; simp only [List.length_cons] at this; omega
    subst hk'
    rw [List.take_length]
    repeat (first | refine gG ?_ | refine zN1 (fun hlen => ?_) | refine zN2 (fun hlen => ?_))
    first | refine zR ?_ | refine zQ ?_
    rfl
set_option maxRecDepth 100000 in
set_option maxHeartbeats 4000000 in
theorem parcelFault_af (p : Par) (hsm : p.Small) : AF Try.prog 45 [p.t] (· = .lit (.int .i64 p.check)) := by
  have k3 := @Par.check_3 p
  have k2 := @Par.check_2 p
  have ks := @Par.check_s p
  have kb := @Par.check_b p
  have kl := @Par.check_l p
  have hs := savedFault_af p.sav (fun v hv => (hsm.sav.state v hv).2.1) (fun x hx => (hsm.sav.inp x hx).2.1)
  obtain ⟨rf, sv, bx, tk, wt, lk⟩ := p
  have hbm := hsm.box
  dsimp only at k3 k2 ks kb kl hs hbm
  generalize (Par.mk rf sv bx tk wt lk).check = ck at *
  generalize sv.check = cs at *
  obtain ⟨ac, st, ip⟩ := sv
  refine af_enter tok Try.func45 Try.ntmps45 Try.results45 rfl (by kernel_rfl) rfl rfl fun F hX => ?_
  cases d1 : decide (rf < 1)
  rotate_left
  · repeat (first | refine gG ?_ | refine zN1 (fun hlen => ?_) | refine zN2 (fun hlen => ?_) | refine zAl (fun _ => ?_) | refine zBf ?_)
    first | refine zR ?_ | refine zQ ?_
    rw [k3 (by rw [d1]; rfl)]; rfl
  cases d2 : decide (tk < -1)
  rotate_left
  · repeat (first | refine gG ?_ | refine zN1 (fun hlen => ?_) | refine zN2 (fun hlen => ?_) | refine zAl (fun _ => ?_) | refine zBf ?_)
    first | refine zR ?_ | refine zQ ?_
    rw [k3 (by rw [d1, d2]; rfl)]; rfl
  have j1 : (decide (rf < 1) || decide (tk < -1)) = false := by rw [d1, d2]; rfl
  cases d3 : decide ((60 : Int) < (bx.length : Int))
  rotate_left
  · repeat (first | refine gG ?_ | refine zN1 (fun hlen => ?_) | refine zN2 (fun hlen => ?_) | refine zAl (fun _ => ?_) | refine zBf ?_)
    first | refine zR ?_ | refine zQ ?_
    rw [k2 j1 (by rw [d3]; rfl)]; rfl
  cases d4 : decide ((1000 : Int) < (wt.length : Int))
  rotate_left
  · repeat (first | refine gG ?_ | refine zN1 (fun hlen => ?_) | refine zN2 (fun hlen => ?_) | refine zAl (fun _ => ?_) | refine zBf ?_)
    first | refine zR ?_ | refine zQ ?_
    rw [k2 j1 (by rw [d3, d4]; rfl)]; rfl
  cases d5 : decide ((1000 : Int) < (lk.length : Int))
  rotate_left
  · repeat (first | refine gG ?_ | refine zN1 (fun hlen => ?_) | refine zN2 (fun hlen => ?_) | refine zAl (fun _ => ?_) | refine zBf ?_)
    first | refine zR ?_ | refine zQ ?_
    rw [k2 j1 (by rw [d3, d4, d5]; rfl)]; rfl
  have j2 : (decide ((60 : Int) < (bx.length : Int)) || decide ((1000 : Int) < (wt.length : Int)) || decide ((1000 : Int) < (lk.length : Int))) = false := by rw [d3, d4, d5]; rfl
  have ks := ks j1 j2
  have kb := kb j1 j2
  have kl := kl j1 j2
  clear k3 k2 j1 j2
  repeat (first | refine gG ?_ | refine zN1 (fun hlen => ?_) | refine zN2 (fun hlen => ?_) | refine zAl (fun _ => ?_) | refine zBf ?_)
  refine zCall (hs) ?_
  rintro _ rfl
  cases c1 : decide (cs = 0)
  · repeat (first | refine gG ?_ | refine zN1 (fun hlen => ?_) | refine zN2 (fun hlen => ?_) | refine zAl (fun _ => ?_) | refine zBx (fun _ => ?_))
    first | refine zR ?_ | refine zQ ?_
    rw [ks (of_decide_eq_false c1)]; rfl
  have hs0 := of_decide_eq_true c1
  repeat (first | refine gG ?_ | refine zN1 (fun hlen => ?_) | refine zN2 (fun hlen => ?_) | refine zAl (fun _ => ?_) | refine zBx (fun _ => ?_))
  refine x_loop [2, 5, 6, 40, 41, 42, 43, 44, 45, 46, 47, 48, 49] (fun k : Nat => [(40, .c (.lit (.int .i64 k)))]) (fun _ => []) (fun k => k ≤ bx.length ∧ ∀ x ∈ bx.take k, Lt.check x = 0) (fun k => bx.length - k) 0 ⟨Nat.zero_le _, by simp⟩ ⟨rfl, trivial⟩ rfl ?_
  rintro k ⟨hk, hz⟩
  repeat (first | refine gG ?_ | refine zN1 (fun hlen => ?_) | refine zN2 (fun hlen => ?_) | refine zAl (fun _ => ?_) | refine zBx (fun _ => ?_))
  refine x_cond rfl (fun h => ?_) (fun h => ?_)
  · have hk' : k < bx.length := by simpa using h
    obtain ⟨a, ha⟩ := nth hk'
    have hs : AF Try.prog 29 [a.t] (· = .lit (.int .i64 a.check)) := (by have h := letterFault_af a (hbm a (List.mem_of_getElem? ha)).2.1; rw [Lt.fault_eq] at h; exact h)
    have he := errs_at Lt.check hz ha
    have hsn := take_snoc (p := fun x => Lt.check x = 0) ha hz
    repeat (first | refine gG ?_ | refine zN1 (fun hlen => ?_) | refine zN2 (fun hlen => ?_) | refine zAl (fun _ => ?_) | refine zBx (fun _ => ?_))
    refine zIx (k) (hk') ?_
    repeat (first | refine gG ?_ | refine zN1 (fun hlen => ?_) | refine zN2 (fun hlen => ?_) | refine zAl (fun _ => ?_) | refine zBx (fun _ => ?_))
    refine zEl (flat_at Lt.ts 9 Lt.ts_len ha) (Lt.ts_len a) ?_
    generalize hca : a.check = ca at *
    obtain ⟨ka, fa, ta, na, sa, ⟨kv, nv, tv, lv⟩⟩ := a
    repeat (first | refine gG ?_ | refine zN1 (fun hlen => ?_) | refine zN2 (fun hlen => ?_) | refine zAl (fun _ => ?_) | refine zBx (fun _ => ?_))
    refine zCall (hs) ?_
    rintro _ rfl
    cases c2 : decide (ca = 0)
    · have c0 : ¬ ca = 0 := of_decide_eq_false c2
      repeat (first | refine gG ?_ | refine zN1 (fun hlen => ?_) | refine zN2 (fun hlen => ?_) | refine zAl (fun _ => ?_) | refine zBx (fun _ => ?_))
      first | refine zR ?_ | refine zQ ?_
      rw [kb hs0 (by rw [he c0]; exact c0), he c0]; rfl
    · have c0 : ca = 0 := of_decide_eq_true c2
      repeat (first | refine gG ?_ | refine zN1 (fun hlen => ?_) | refine zN2 (fun hlen => ?_) | refine zAl (fun _ => ?_) | refine zBx (fun _ => ?_))
      exact ⟨k + 1, ⟨hk', hsn c0⟩, by omega, x_wkd 0 ⟨rfl, trivial⟩ rfl (by repeat (first | exact ag_refl | refine ag_upd rfl ?_ | refine ag_at rfl rfl ?_))⟩
  · have hk' : k = bx.length := by have : ¬ k < bx.length := by simpa using h
                                   omega
    subst hk'
    rw [List.take_length] at hz
    have kl := kl hs0 (errs_all Lt.check hz)
    rcases wt with _ | ⟨w0, wr⟩
    · have e1 : decide ((0 : Int) < (([] : List Int).length : Int)) = false := rfl
      rcases lk with _ | ⟨l0, lr⟩
      · have e2 : decide ((0 : Int) < (([] : List Int).length : Int)) = false := rfl
        repeat (first | refine gG ?_ | refine zN1 (fun hlen => ?_) | refine zN2 (fun hlen => ?_) | refine zAl (fun _ => ?_) | refine zBx (fun _ => ?_))
        first | refine zR ?_ | refine zQ ?_
        rw [kl, if_neg (by decide)]; rfl
      · have e2 : decide ((0 : Int) < ((l0 :: lr).length : Int)) = true := decide_eq_true (by simp only [List.length_cons]; omega)
        have hm2 := min_af l0 lr
        have hl2 := minl_low lr l0
        generalize lr.foldl min l0 = m2 at *
        have hl2 : decide (m2 < 1) = (l0 :: lr).any low1 := by rw [hl2, List.any_cons]
        cases f2 : decide (m2 < 1)
        · have f2x := f2
          rw [hl2] at f2x
          repeat (first | refine gG ?_ | refine zN1 (fun hlen => ?_) | refine zN2 (fun hlen => ?_) | refine zAl (fun _ => ?_) | refine zBx (fun _ => ?_))
          refine zCall (hm2) ?_
          rintro _ rfl
          repeat (first | refine gG ?_ | refine zN1 (fun hlen => ?_) | refine zN2 (fun hlen => ?_) | refine zAl (fun _ => ?_) | refine zBx (fun _ => ?_))
          first | refine zR ?_ | refine zQ ?_
          rw [kl, if_neg (by rw [f2x]; decide)]; rfl
        · have f2x := f2
          rw [hl2] at f2x
          repeat (first | refine gG ?_ | refine zN1 (fun hlen => ?_) | refine zN2 (fun hlen => ?_) | refine zAl (fun _ => ?_) | refine zBx (fun _ => ?_))
          refine zCall (hm2) ?_
          rintro _ rfl
          repeat (first | refine gG ?_ | refine zN1 (fun hlen => ?_) | refine zN2 (fun hlen => ?_) | refine zAl (fun _ => ?_) | refine zBx (fun _ => ?_))
          first | refine zR ?_ | refine zQ ?_
          rw [kl, if_pos (by rw [f2x]; rfl)]; rfl
    · have e1 : decide ((0 : Int) < ((w0 :: wr).length : Int)) = true := decide_eq_true (by simp only [List.length_cons]; omega)
      have hm1 := min_af w0 wr
      have hl1 := minl_low wr w0
      generalize wr.foldl min w0 = m1 at *
      have hl1 : decide (m1 < 1) = (w0 :: wr).any low1 := by rw [hl1, List.any_cons]
      cases f1 : decide (m1 < 1)
      rotate_left
      · have f1x := f1
        rw [hl1] at f1x
        repeat (first | refine gG ?_ | refine zN1 (fun hlen => ?_) | refine zN2 (fun hlen => ?_) | refine zAl (fun _ => ?_) | refine zBx (fun _ => ?_))
        refine zCall (hm1) ?_
        rintro _ rfl
        repeat (first | refine gG ?_ | refine zN1 (fun hlen => ?_) | refine zN2 (fun hlen => ?_) | refine zAl (fun _ => ?_) | refine zBx (fun _ => ?_))
        first | refine zR ?_ | refine zQ ?_
        rw [kl, if_pos (by rw [f1x]; rfl)]; rfl
      have f1x := f1
      rw [hl1] at f1x
      rcases lk with _ | ⟨l0, lr⟩
      · have e2 : decide ((0 : Int) < (([] : List Int).length : Int)) = false := rfl
        repeat (first | refine gG ?_ | refine zN1 (fun hlen => ?_) | refine zN2 (fun hlen => ?_) | refine zAl (fun _ => ?_) | refine zBx (fun _ => ?_))
        refine zCall (hm1) ?_
        rintro _ rfl
        repeat (first | refine gG ?_ | refine zN1 (fun hlen => ?_) | refine zN2 (fun hlen => ?_) | refine zAl (fun _ => ?_) | refine zBx (fun _ => ?_))
        first | refine zR ?_ | refine zQ ?_
        rw [kl, if_neg (by rw [f1x]; decide)]; rfl
      · have e2 : decide ((0 : Int) < ((l0 :: lr).length : Int)) = true := decide_eq_true (by simp only [List.length_cons]; omega)
        have hm2 := min_af l0 lr
        have hl2 := minl_low lr l0
        generalize lr.foldl min l0 = m2 at *
        have hl2 : decide (m2 < 1) = (l0 :: lr).any low1 := by rw [hl2, List.any_cons]
        cases f2 : decide (m2 < 1)
        · have f2x := f2
          rw [hl2] at f2x
          repeat (first | refine gG ?_ | refine zN1 (fun hlen => ?_) | refine zN2 (fun hlen => ?_) | refine zAl (fun _ => ?_) | refine zBx (fun _ => ?_))
          refine zCall (hm1) ?_
          rintro _ rfl
          repeat (first | refine gG ?_ | refine zN1 (fun hlen => ?_) | refine zN2 (fun hlen => ?_) | refine zAl (fun _ => ?_) | refine zBx (fun _ => ?_))
          refine zCall (hm2) ?_
          rintro _ rfl
          repeat (first | refine gG ?_ | refine zN1 (fun hlen => ?_) | refine zN2 (fun hlen => ?_) | refine zAl (fun _ => ?_) | refine zBx (fun _ => ?_))
          first | refine zR ?_ | refine zQ ?_
          rw [kl, if_neg (by rw [f1x, f2x]; decide)]; rfl
        · have f2x := f2
          rw [hl2] at f2x
          repeat (first | refine gG ?_ | refine zN1 (fun hlen => ?_) | refine zN2 (fun hlen => ?_) | refine zAl (fun _ => ?_) | refine zBx (fun _ => ?_))
          refine zCall (hm1) ?_
          rintro _ rfl
          repeat (first | refine gG ?_ | refine zN1 (fun hlen => ?_) | refine zN2 (fun hlen => ?_) | refine zAl (fun _ => ?_) | refine zBx (fun _ => ?_))
          refine zCall (hm2) ?_
          rintro _ rfl
          repeat (first | refine gG ?_ | refine zN1 (fun hlen => ?_) | refine zN2 (fun hlen => ?_) | refine zAl (fun _ => ?_) | refine zBx (fun _ => ?_))
          first | refine zR ?_ | refine zQ ?_
          rw [kl, if_pos (by rw [f1x, f2x]; rfl)]; rfl
def encL (l : List Int) : List UInt8 := uv l.length ++ l.flatMap nb
theorem letterText_af' {x : Lt} (h : x.check = 0) (hok : x.ok) (hb : x.bytes.length ≤ 1099511627776) : AF Try.prog 88 [x.t] (· = .lit (.string (bs x.bytes))) := by
  obtain ⟨k, fm, tt, n, t, v⟩ := x
  have hR := Lt.right h
  obtain ⟨a1, a2, a3, a4, a5⟩ := hok
  unfold inI at a1 a2 a3
  obtain ⟨fm, rfl⟩ := nat_of hR.fm0
  obtain ⟨tt, rfl⟩ := nat_of hR.tt0
  obtain ⟨n, rfl⟩ := nat_of hR.n0.1
  exact letterText_af (k := k) (t := t) (fm := fm) (tt := tt) (n := n) (by omega) (by omega) (by omega) a4 hb
set_option maxRecDepth 100000 in
set_option maxHeartbeats 4000000 in
theorem parcelBytes_af (p : Par) (hs : p.Small) : AF Try.prog 43 [p.t] (Outs2 p.out p.check) := by
  have hc := parcelFault_af p hs
  unfold Par.out
  by_cases hyes : p.check = 0
  rotate_left
  · rw [if_neg hyes]
    have d1 : decide (p.check = 0) = false := decide_eq_false hyes
    generalize p.check = e at *
    obtain ⟨rf, ⟨ac, st, ip⟩, bx, tk, wt, lk⟩ := p
    refine af_enter tok Try.func43 Try.ntmps43 Try.results43 rfl (by kernel_rfl) rfl rfl fun F hX => ?_
    repeat (first | refine gG ?_ | refine zN1 (fun hlen => ?_) | refine zN2 (fun hlen => ?_) | refine zAl (fun _ => ?_) | refine zBf ?_)
    refine zCall (hc) ?_
    rintro _ rfl
    repeat (first | refine gG ?_ | refine zN1 (fun hlen => ?_) | refine zN2 (fun hlen => ?_) | refine zAl (fun _ => ?_) | refine zBx (fun _ => ?_))
    first | refine zR (ts := [bytRow [], .lit (.int .i64 e)]) ?_ | refine zQ (ts := [bytRow [], .lit (.int .i64 e)]) ?_
    rfl
  rw [if_pos hyes]
  have hR := Par.right hyes
  have hbl := Par.bytes_le hs hR
  rw [hyes] at hc ⊢
  have hsr := Sav.right hR.sav
  have hsb := Sav.bytes_le hs.sav hsr
  obtain ⟨rf, sv, bx, tk, wt, lk⟩ := p
  obtain ⟨a1, a2, a3, a4, a5, a6, a7, a8⟩ := hR
  obtain ⟨b1, b2, b3, b4, b5, b6⟩ := hs
  dsimp only at hsr hsb a1 a2 a3 a4 a5 a6 a7 a8 b1 b2 b3 b4 b5 b6
  have hrf := b3
  unfold inI at hrf
  obtain ⟨rf, rfl⟩ := nat_of (show 0 ≤ rf by omega)
  have e0 : (Par.mk rf sv bx tk wt lk).bytes = uv rf ++ sv.bytes ++ uv bx.length ++ bx.flatMap Lt.bytes ++ uv (zz tk) ++ [wt, lk].flatMap encL := by simp [Par.bytes, encL]
  rw [e0] at hbl ⊢
  simp only [List.length_append] at hbl
  have c1 := rnat_af rf (by omega)
  have c2 := savedText_af sv (fun v hv => (b1.state v hv).1) (fun x hx => ⟨(b1.inp x hx).1, (Inp.right (hsr.inp x hx)).kind.2⟩) hsr.states hsr.inps (by omega)
  have c3 := rnat_af bx.length (by omega)
  have c4 := rnum_af tk b4
  have w1 : IntKind.u64.wrap (rf : Int) = (rf : Int) := by rw [wrap_u64]; omega
  have w3 : IntKind.u64.wrap (bx.length : Int) = (bx.length : Int) := by rw [wrap_u64]; omega
  have ul1 := uv_len64 (n := bx.length) (by omega)
  generalize sv.bytes = sb at *
  obtain ⟨ac, st, ip⟩ := sv
  refine af_enter tok Try.func43 Try.ntmps43 Try.results43 rfl (by kernel_rfl) rfl rfl fun F hX => ?_
  repeat (first | refine gG ?_ | refine zN1 (fun hlen => ?_) | refine zN2 (fun hlen => ?_) | refine zAl (fun _ => ?_) | refine zBf ?_)
  refine zCall (hc) ?_
  rintro _ rfl
  repeat (first | refine gG ?_ | refine zN1 (fun hlen => ?_) | refine zN2 (fun hlen => ?_) | refine zAl (fun _ => ?_) | refine zBx (fun _ => ?_))
  refine ac_draw [1, 1, 1, 1, 1, 1, 1, 1, 1, 1, 1, 1, 1, 1, 1] [0, 1, 2, 3, 4, 5, 6, 7, 8, 9, 10, 11, 12, 13, 14] (by kernel_rfl) (by kernel_rfl) ?_
  refine gW ?_
  apply w_q; (focus exact rfl); (focus exact rfl); focus (intro _; (refine lo_conv tok rfl rfl rfl rfl w1 ?_); exact det_refl)
  apply w_q; (focus exact rfl); (focus exact rfl); focus (intro _; (refine lo_call c1 rfl (by repeat (first | exact rzs_nil | apply rzs_cons | exact rz_c | exact rz_nil rfl | apply rz_agg | exact rz_own rfl | apply rz_fn | exact rz_ptr rfl | apply rz_tup)) ?_; rintro _ rfl); exact det_refl)
  refine gW ?_
  apply w_q; (focus exact rfl); (focus exact rfl); focus (intro _; (refine lo_call c2 rfl (by repeat (first | exact rzs_nil | apply rzs_cons | exact rz_c | exact rz_nil rfl | apply rz_agg | exact rz_own rfl | apply rz_fn | exact rz_ptr rfl | apply rz_tup)) ?_; rintro _ rfl); exact det_refl)
  apply w_q; (focus exact rfl); (focus exact rfl); focus (intro _; (refine zCatb (uv rf) sb (by first | omega | (simp only [List.length_append, List.length_cons, List.length_nil, sz_len]; omega)) ?_); exact det_refl)
  refine gW ?_
  apply w_q; (focus exact rfl); (focus exact rfl); focus (intro _; (refine lo_conv tok rfl rfl rfl rfl w3 ?_); exact det_refl)
  apply w_q; (focus exact rfl); (focus exact rfl); focus (intro _; (refine lo_call c3 rfl (by repeat (first | exact rzs_nil | apply rzs_cons | exact rz_c | exact rz_nil rfl | apply rz_agg | exact rz_own rfl | apply rz_fn | exact rz_ptr rfl | apply rz_tup)) ?_; rintro _ rfl); exact det_refl)
  apply w_q; (focus exact rfl); (focus exact rfl); focus (intro _; (refine zCatb (uv rf ++ sb) (uv bx.length) (by first | omega | (simp only [List.length_append, List.length_cons, List.length_nil, sz_len]; omega)) ?_); exact det_refl)
  refine gW ?_
  refine w_nil ?_
  repeat (first | refine gG ?_ | refine zN1 (fun hlen => ?_) | refine zN2 (fun hlen => ?_) | refine zAl (fun _ => ?_) | refine zBx (fun _ => ?_))
  refine x_loop [5, 7, 34, 35, 36, 37, 38, 39, 40, 41, 42] (fun y : Nat => [(34, .c (.lit (.int .i64 (y : Nat)))), (5, .c (.lit (.string (bs (uv rf ++ sb ++ uv bx.length ++ (bx.take y).flatMap Lt.bytes)))))]) (fun _ => []) (fun y => y ≤ bx.length) (fun y => bx.length - y) 0 (Nat.zero_le _) ⟨rfl, by simp; rfl, trivial⟩ rfl ?_
  intro i hi
  repeat (first | refine gG ?_ | refine zN1 (fun hlen => ?_) | refine zN2 (fun hlen => ?_) | refine zAl (fun _ => ?_) | refine zBx (fun _ => ?_))
  refine x_cond rfl (fun h => ?_) (fun h => ?_)
  · have hi' : i < bx.length := by simpa using h
    obtain ⟨a, hla⟩ := nth hi'
    have hsn := flat_snoc' Lt.bytes hla
    have hle := flat_take_le Lt.bytes bx (i + 1)
    rw [hsn, List.length_append] at hle
    have hc := letterText_af' (a3 a (List.mem_of_getElem? hla)) (b2 a (List.mem_of_getElem? hla)).1 (by omega)
    repeat (first | refine gG ?_ | refine zN1 (fun hlen => ?_) | refine zN2 (fun hlen => ?_) | refine zAl (fun _ => ?_) | refine zBx (fun _ => ?_))
    refine zIx (i) (hi') ?_
    repeat (first | refine gG ?_ | refine zN1 (fun hlen => ?_) | refine zN2 (fun hlen => ?_) | refine zAl (fun _ => ?_) | refine zBx (fun _ => ?_))
    refine zEl (flat_at Lt.ts 9 Lt.ts_len hla) (Lt.ts_len a) ?_
    generalize a.bytes = ab at *
    obtain ⟨ka, fa, ta, na, sa, ⟨kv, nv, tv, lv⟩⟩ := a
    repeat (first | refine gG ?_ | refine zN1 (fun hlen => ?_) | refine zN2 (fun hlen => ?_) | refine zAl (fun _ => ?_) | refine zBx (fun _ => ?_))
    refine zCall (hc) ?_
    rintro _ rfl
    repeat (first | refine gG ?_ | refine zN1 (fun hlen => ?_) | refine zN2 (fun hlen => ?_) | refine zAl (fun _ => ?_) | refine zBx (fun _ => ?_))
    refine zCatb (uv rf ++ sb ++ uv bx.length ++ (bx.take i).flatMap Lt.bytes) ab (by first | omega | (simp only [List.length_append, List.length_cons, List.length_nil, sz_len]; omega)) ?_
    repeat (first | refine gG ?_ | refine zN1 (fun hlen => ?_) | refine zN2 (fun hlen => ?_) | refine zAl (fun _ => ?_) | refine zBx (fun _ => ?_))
    exact ⟨i + 1, hi', by omega, x_wkd 0 ⟨rfl, by simp only [hsn, List.append_assoc]; rfl, trivial⟩ rfl (by repeat (first | exact ag_refl | refine ag_upd rfl ?_ | refine ag_at rfl rfl ?_))⟩
  have hi' : i = bx.length := by have : ¬ i < bx.length := by simpa using h
                                 omega
  subst hi'
  rw [List.take_length]
  repeat (first | refine gG ?_ | refine zN1 (fun hlen => ?_) | refine zN2 (fun hlen => ?_) | refine zAl (fun _ => ?_) | refine zBx (fun _ => ?_))
  refine zCall (c4) ?_
  rintro _ rfl
  repeat (first | refine gG ?_ | refine zN1 (fun hlen => ?_) | refine zN2 (fun hlen => ?_) | refine zAl (fun _ => ?_) | refine zBx (fun _ => ?_))
  refine zCatb (uv rf ++ sb ++ uv bx.length ++ bx.flatMap Lt.bytes) (uv (zz tk)) (by first | omega | (simp only [List.length_append, List.length_cons, List.length_nil, sz_len]; omega)) ?_
  repeat (first | refine gG ?_ | refine zN1 (fun hlen => ?_) | refine zN2 (fun hlen => ?_) | refine zAl (fun _ => ?_) | refine zBx (fun _ => ?_))
  refine x_loop [5, 9, 11, 54, 55, 56, 57, 58, 59, 60, 61, 62, 63, 64, 65, 66, 67, 68, 69, 70, 71, 72, 73, 74, 75, 76] (fun y : Nat => [(54, .c (.lit (.int .i64 (y : Nat)))), (5, .c (.lit (.string (bs (uv rf ++ sb ++ uv bx.length ++ bx.flatMap Lt.bytes ++ uv (zz tk) ++ ([wt, lk].take y).flatMap encL)))))]) (fun _ => []) (fun y => y ≤ 2) (fun y => 2 - y) 0 (Nat.zero_le _) ⟨rfl, by simp; rfl, trivial⟩ rfl ?_
  intro i hi
  repeat (first | refine gG ?_ | refine zN1 (fun hlen => ?_) | refine zN2 (fun hlen => ?_) | refine zAl (fun _ => ?_) | refine zBx (fun _ => ?_))
  refine x_cond rfl (fun h => ?_) (fun h => ?_)
  · have hi' : i < 2 := by have := of_decide_eq_true h; omega
    obtain ⟨a, hla⟩ := nth (l := [wt, lk]) hi'
    have hsn := flat_snoc' encL hla
    have hle := flat_take_le encL [wt, lk] i
    have ham : a = wt ∨ a = lk := by have := List.mem_of_getElem? hla; simpa using this
    have hal : a.length ≤ 1000 := by rcases ham with rfl | rfl <;> assumption
    have hain : ∀ n ∈ a, inI n ∧ 1 ≤ n := by
      rcases ham with rfl | rfl
      · exact fun n hn => ⟨b5 n hn, a5 n hn⟩
      · exact fun n hn => ⟨b6 n hn, a6 n hn⟩
    clear ham
    have wa : IntKind.u64.wrap (a.length : Int) = (a.length : Int) := by rw [wrap_u64]; omega
    have ca := rnat_af a.length (by omega)
    have ula := uv_len64 (n := a.length) (by omega)
    have hfa := flat_le nb 10 (l := a) fun n hn => nb_le (hain n hn).1
    have heq : encL a = uv a.length ++ a.flatMap nb := rfl
    repeat (first | refine gG ?_ | refine zN1 (fun hlen => ?_) | refine zN2 (fun hlen => ?_) | refine zAl (fun _ => ?_) | refine zBx (fun _ => ?_))
    refine zIx i hi' ?_
    repeat (first | refine gG ?_ | refine zN1 (fun hlen => ?_) | refine zN2 (fun hlen => ?_) | refine zAl (fun _ => ?_) | refine zBx (fun _ => ?_))
    refine zEl1 (map_at intRow hla) ?_
    repeat (first | refine gG ?_ | refine zN1 (fun hlen => ?_) | refine zN2 (fun hlen => ?_) | refine zAl (fun _ => ?_) | refine zBx (fun _ => ?_))
    refine lo_conv tok rfl rfl rfl rfl wa ?_
    repeat (first | refine gG ?_ | refine zN1 (fun hlen => ?_) | refine zN2 (fun hlen => ?_) | refine zAl (fun _ => ?_) | refine zBx (fun _ => ?_))
    refine zCall (ca) ?_
    rintro _ rfl
    repeat (first | refine gG ?_ | refine zN1 (fun hlen => ?_) | refine zN2 (fun hlen => ?_) | refine zAl (fun _ => ?_) | refine zBx (fun _ => ?_))
    refine zCatb (uv rf ++ sb ++ uv bx.length ++ bx.flatMap Lt.bytes ++ uv (zz tk) ++ ([wt, lk].take i).flatMap encL) (uv a.length) (by first | omega | (simp only [List.length_append, List.length_cons, List.length_nil, sz_len]; omega)) ?_
    repeat (first | refine gG ?_ | refine zN1 (fun hlen => ?_) | refine zN2 (fun hlen => ?_) | refine zAl (fun _ => ?_) | refine zBx (fun _ => ?_))
    refine x_loop [5, 11, 66, 67, 68, 69, 70, 71, 72, 73, 74, 75] (fun y : Nat => [(66, .c (.lit (.int .i64 (y : Nat)))), (5, .c (.lit (.string (bs (uv rf ++ sb ++ uv bx.length ++ bx.flatMap Lt.bytes ++ uv (zz tk) ++ ([wt, lk].take i).flatMap encL ++ uv a.length ++ (a.take y).flatMap nb)))))]) (fun _ => []) (fun y => y ≤ a.length) (fun y => a.length - y) 0 (Nat.zero_le _) ⟨rfl, by simp; rfl, trivial⟩ rfl ?_
    intro j hj
    repeat (first | refine gG ?_ | refine zN1 (fun hlen => ?_) | refine zN2 (fun hlen => ?_) | refine zAl (fun _ => ?_) | refine zBx (fun _ => ?_))
    refine x_cond rfl (fun h => ?_) (fun h => ?_)
    · have hj' : j < a.length := by simpa using h
      obtain ⟨n, hn⟩ := nth hj'
      obtain ⟨hn1, hn2⟩ := hain n (List.mem_of_getElem? hn)
      have hsn3 := flat_snoc' nb hn
      have hle3 := flat_take_le nb a (j + 1)
      rw [hsn3, List.length_append] at hle3
      repeat (first | refine gG ?_ | refine zN1 (fun hlen => ?_) | refine zN2 (fun hlen => ?_) | refine zAl (fun _ => ?_) | refine zBx (fun _ => ?_))
      refine zIx j hj' ?_
      repeat (first | refine gG ?_ | refine zN1 (fun hlen => ?_) | refine zN2 (fun hlen => ?_) | refine zAl (fun _ => ?_) | refine zBx (fun _ => ?_))
      refine zEl1 (int_at hn) ?_
      unfold inI at hn1
      obtain ⟨m, rfl⟩ := nat_of (show 0 ≤ n by omega)
      have wn : IntKind.u64.wrap (m : Int) = (m : Int) := by rw [wrap_u64]; omega
      have cn := rnat_af m (by omega)
      have hnb : nb (m : Int) = uv m := rfl
      rw [hnb] at hsn3 hle3
      repeat (first | refine gG ?_ | refine zN1 (fun hlen => ?_) | refine zN2 (fun hlen => ?_) | refine zAl (fun _ => ?_) | refine zBx (fun _ => ?_))
      refine lo_conv tok rfl rfl rfl rfl wn ?_
      repeat (first | refine gG ?_ | refine zN1 (fun hlen => ?_) | refine zN2 (fun hlen => ?_) | refine zAl (fun _ => ?_) | refine zBx (fun _ => ?_))
      refine zCall (cn) ?_
      rintro _ rfl
      repeat (first | refine gG ?_ | refine zN1 (fun hlen => ?_) | refine zN2 (fun hlen => ?_) | refine zAl (fun _ => ?_) | refine zBx (fun _ => ?_))
      refine zCatb (uv rf ++ sb ++ uv bx.length ++ bx.flatMap Lt.bytes ++ uv (zz tk) ++ ([wt, lk].take i).flatMap encL ++ uv a.length ++ (a.take j).flatMap nb) (uv m) (by first | omega | (simp only [List.length_append, List.length_cons, List.length_nil, sz_len]; omega)) ?_
      repeat (first | refine gG ?_ | refine zN1 (fun hlen => ?_) | refine zN2 (fun hlen => ?_) | refine zAl (fun _ => ?_) | refine zBx (fun _ => ?_))
      exact ⟨j + 1, hj', by omega, x_wkd 0 ⟨rfl, by simp only [hsn3, List.append_assoc]; rfl, trivial⟩ rfl (by repeat (first | exact ag_refl | refine ag_upd rfl ?_ | refine ag_at rfl rfl ?_))⟩
    · have hj' : j = a.length := by have : ¬ j < a.length := by simpa using h
                                    omega
      subst hj'
      rw [List.take_length]
      repeat (first | refine gG ?_ | refine zN1 (fun hlen => ?_) | refine zN2 (fun hlen => ?_) | refine zAl (fun _ => ?_) | refine zBx (fun _ => ?_))
      exact ⟨i + 1, hi', by omega, x_wkd 0 ⟨rfl, by simp only [hsn, heq, List.append_assoc]; rfl, trivial⟩ rfl (by repeat (first | exact ag_refl | refine ag_upd rfl ?_ | refine ag_at rfl rfl ?_))⟩
  have hi' : i = 2 := by have := of_decide_eq_false h; omega
  subst hi'
  repeat (first | refine gG ?_ | refine zN1 (fun hlen => ?_) | refine zN2 (fun hlen => ?_) | refine zAl (fun _ => ?_) | refine zBx (fun _ => ?_))
  refine zByt (s := bs (uv rf ++ sb ++ uv bx.length ++ bx.flatMap Lt.bytes ++ uv (zz tk) ++ [wt, lk].flatMap encL)) (by rw [bs_size']; simp only [maxLen, List.length_append]; omega) ?_
  repeat (first | refine gG ?_ | refine zN1 (fun hlen => ?_) | refine zN2 (fun hlen => ?_) | refine zAl (fun _ => ?_) | refine zBx (fun _ => ?_))
  first | refine zR ?_ | refine zQ ?_
  rfl
end Go.Proofs.Ythgackidonocpaa
namespace Go.Proofs.Ythgackidonocpaa
open Go.RowKit
set_option maxRecDepth 100000 in
set_option maxHeartbeats 4000000 in
theorem parcelSmall_af (p : Par) (hs : p.Small) (hn : p.sav.state.length ≤ 1048576) : AF Try.prog 41 [p.t] Tell := by
  have hv := savedSmall_af p.sav (fun v hv => (hs.sav.state v hv).2.1) (fun v hv => (hs.sav.inp v hv).2.1) hn
  have hbx := hs.box
  obtain ⟨rf, ⟨ac, st, ip⟩, l, tk, wt, lk⟩ := p
  dsimp only at hbx hv
  refine af_enter tok Try.func41 Try.ntmps41 Try.results41 rfl (by kernel_rfl) rfl rfl fun F hX => ?_
  repeat (first | refine gG ?_ | refine zN1 (fun hlen => ?_) | refine zN2 (fun hlen => ?_) | refine zAl (fun _ => ?_) | refine zBf ?_)
  refine x_loop [2, 4, 8, 9, 10, 11, 12, 13, 14, 15, 16] (fun k : Nat => [(8, .c (.lit (.int .i64 k)))]) (fun _ => []) (fun k => k ≤ l.length) (fun k => l.length - k) 0 (Nat.zero_le _) ⟨rfl, trivial⟩ rfl fun k hk => ?_
  repeat (first | refine gG ?_ | refine zN1 (fun hlen => ?_) | refine zN2 (fun hlen => ?_) | refine zAl (fun _ => ?_) | refine zBx (fun _ => ?_))
  refine x_cond rfl (fun h => ?_) (fun h => ?_)
  · have hk' : k < l.length := by simpa using h
    obtain ⟨a, ha⟩ := nth hk'
    have hs := valueSmall_af a.val (hbx a (List.mem_of_getElem? ha)).2.1
    repeat (first | refine gG ?_ | refine zN1 (fun hlen => ?_) | refine zN2 (fun hlen => ?_) | refine zAl (fun _ => ?_) | refine zBx (fun _ => ?_))
    refine zIx (k) (hk') ?_
    repeat (first | refine gG ?_ | refine zN1 (fun hlen => ?_) | refine zN2 (fun hlen => ?_) | refine zAl (fun _ => ?_) | refine zBx (fun _ => ?_))
    refine zEl (flat_at Lt.ts 9 Lt.ts_len ha) (Lt.ts_len a) ?_
    obtain ⟨ka, fa, ta, na, sa, ⟨kv, nv, tv, lv⟩⟩ := a
    simp only [Lt.val] at hs
    repeat (first | refine gG ?_ | refine zN1 (fun hlen => ?_) | refine zN2 (fun hlen => ?_) | refine zAl (fun _ => ?_) | refine zBx (fun _ => ?_))
    refine zCall (hs) ?_
    rintro _ ⟨b, rfl⟩
    cases b
    · repeat (first | refine gG ?_ | refine zN1 (fun hlen => ?_) | refine zN2 (fun hlen => ?_) | refine zAl (fun _ => ?_) | refine zBx (fun _ => ?_))
      first | refine zR ?_ | refine zQ ?_
      exact ⟨_, rfl⟩
    · repeat (first | refine gG ?_ | refine zN1 (fun hlen => ?_) | refine zN2 (fun hlen => ?_) | refine zAl (fun _ => ?_) | refine zBx (fun _ => ?_))
      exact ⟨k + 1, hk', by omega, x_wkd 0 ⟨rfl, trivial⟩ rfl (by repeat (first | exact ag_refl | refine ag_upd rfl ?_ | refine ag_at rfl rfl ?_))⟩
  · repeat (first | refine gG ?_ | refine zN1 (fun hlen => ?_) | refine zN2 (fun hlen => ?_) | refine zAl (fun _ => ?_) | refine zBx (fun _ => ?_))
    refine zCall (hv) ?_
    rintro _ ⟨b, rfl⟩
    repeat (first | refine gG ?_ | refine zN1 (fun hlen => ?_) | refine zN2 (fun hlen => ?_) | refine zAl (fun _ => ?_) | refine zBx (fun _ => ?_))
    first | refine zR ?_ | refine zQ ?_
    exact ⟨_, rfl⟩
end Go.Proofs.Ythgackidonocpaa
namespace Go.Proofs.Ythgackidonocpaa
open Go.RowKit
structure Wy where
  frm : Int
  to : Int
  lets : List Lt
def Wy.ts (w : Wy) : List T := [.lit (.int .i64 w.frm), .lit (.int .i64 w.to), letRow w.lets]
theorem Wy.ts_len (w : Wy) : w.ts.length = 3 := rfl
def parRow (l : List Par) : T := .row l.length 8 (l.flatMap Par.ts)
def wayRow (l : List Wy) : T := .row l.length 3 (l.flatMap Wy.ts)
structure Snp where
  time : Int
  pars : List Par
  ways : List Wy
def Snp.ts (s : Snp) : List T := [.lit (.int .i64 s.time), parRow s.pars, wayRow s.ways]
def Snp.t (s : Snp) : T := .agg s.ts
/-- each with the one ahead of it -/
def prevs {α : Type} (l : List α) : List (α × Option α) := l.zip (none :: l.map some)
theorem prevs_len {α : Type} (l : List α) : (prevs l).length = l.length := by simp [prevs]
theorem prevs_at0 {α : Type} {l : List α} {a : α} (h : l[0]? = some a) : (prevs l)[0]? = some (a, none) := by
  cases l with
  | nil => simp at h
  | cons b l => obtain rfl : b = a := by simpa using h
                rfl
theorem prevs_at {α : Type} {l : List α} {k : Nat} {a b : α} (h : l[k + 1]? = some a) (hb : l[k]? = some b) : (prevs l)[k + 1]? = some (a, some b) := by
  simp [prevs, List.getElem?_zip_eq_some, h, hb]
def isN (n : Int) : Bool := decide (1 ≤ n) && decide (n ≤ 8)
def orI (a b : Int) : Int := if a = 0 then b else a
def parE : Par × Option Par → Int
  | (p, none) => p.check
  | (p, some q) => if ¬ p.check = 0 then p.check else if p.ref ≤ q.ref then 21 else 0
def Wy.badN (w : Wy) : Bool := (!isN w.frm || !isN w.to) || decide (w.frm = w.to)
def ordM (fr to : Int) : Option Wy → Bool
  | none => false
  | some q => decide (orI (fr - q.frm) (to - q.to) ≤ 0)
def Wy.ordB (w : Wy) (o : Option Wy) : Bool := ordM w.frm w.to o
def wayE (x : Wy × Option Wy) : Int := if x.1.badN = true then 1 else if decide ((100 : Int) < (x.1.lets.length : Int)) = true then 2 else if x.1.ordB x.2 = true then 21 else errs (x.1.lets.map Lt.check)
def Snp.check (s : Snp) : Int :=
  if (decide ((100 : Int) < (s.pars.length : Int)) || decide ((60 : Int) < (s.ways.length : Int))) = true then 2
  else if decide (s.time < 0) = true then 1
  else if ¬ errs ((prevs s.pars).map parE) = 0 then errs ((prevs s.pars).map parE)
  else errs ((prevs s.ways).map wayE)
/-- a number in so many bytes, the greatest ahead -/
def numB (n : Int) : Nat → List UInt8
  | 0 => []
  | k + 1 => kb (n / 256 ^ k) :: numB n k
theorem numB_len (n : Int) : ∀ k, (numB n k).length = k
  | 0 => rfl
  | k + 1 => by simp [numB, numB_len n k]
def partB (x : List UInt8) : List UInt8 := numB x.length 4 ++ x
def pkOne (x : List UInt8) : List UInt8 := [kb ((x.length : Int) / 256), kb (x.length : Int)] ++ x
def bigB (x : List UInt8) : Bool := decide ((65535 : Int) < (x.length : Int))
def wayText (w : Wy) : List UInt8 := [kb w.frm, kb w.to] ++ (w.lets.map Lt.bytes).flatMap pkOne
def headB (s : Snp) : List UInt8 := numB s.time 8 ++ [kb (s.pars.length : Int), kb (s.ways.length : Int)]
def parPart (p : Par) : List UInt8 := partB p.bytes
def wayPart (w : Wy) : List UInt8 := partB (wayText w)
def Snp.bytes (s : Snp) : List UInt8 := headB s ++ s.pars.flatMap parPart ++ s.ways.flatMap wayPart
def Wy.big (w : Wy) : Bool := (w.lets.map Lt.bytes).any bigB
def Snp.err (s : Snp) : Int := if s.check = 0 then (if s.ways.any Wy.big = true then 2 else 0) else s.check
def Snp.out (s : Snp) : List UInt8 := if s.check = 0 then (if s.ways.any Wy.big = true then [] else s.bytes) else []
structure Snp.Right (s : Snp) : Prop where
  time : 0 ≤ s.time
  pars : s.pars.length ≤ 100
  ways : s.ways.length ≤ 60
  par : ∀ p ∈ s.pars, p.check = 0
  way : ∀ w ∈ s.ways, w.badN = false ∧ w.lets.length ≤ 100 ∧ ∀ l ∈ w.lets, l.check = 0
theorem mem_prevs {α : Type} {l : List α} {a : α} (h : a ∈ l) : ∃ o, (a, o) ∈ prevs l := by
  obtain ⟨k, hk⟩ := List.getElem?_of_mem h
  cases k with
  | zero => exact ⟨none, List.mem_of_getElem? (prevs_at0 hk)⟩
  | succ k =>
    have hlt : k < l.length := by have := (List.getElem?_eq_some_iff.1 hk).1; omega
    exact ⟨some l[k], List.mem_of_getElem? (prevs_at hk (List.getElem?_eq_getElem hlt))⟩
theorem parE_ok {p : Par} {o : Option Par} (h : parE (p, o) = 0) : p.check = 0 := by
  cases o with
  | none => exact h
  | some q =>
    simp only [parE] at h
    split at h
    · rename_i h1; exact absurd h h1
    · rename_i h1; omega
theorem wayE_ok {w : Wy} {o : Option Wy} (h : wayE (w, o) = 0) : w.badN = false ∧ w.lets.length ≤ 100 ∧ w.ordB o = false ∧ ∀ l ∈ w.lets, l.check = 0 := by
  unfold wayE at h
  dsimp only at h
  split at h
  · omega
  · rename_i h1
    split at h
    · omega
    · rename_i h2
      split at h
      · omega
      · rename_i h3
        simp only [decide_eq_true_eq] at h2
        exact ⟨by simpa using h1, by omega, by simpa using h3, errs_zero Lt.check h⟩
theorem Snp.right {s : Snp} (h : s.check = 0) : s.Right := by
  unfold Snp.check at h
  split at h
  · omega
  · rename_i h1
    split at h
    · omega
    · rename_i h2
      split at h
      · rename_i h3; exact absurd h h3
      · rename_i h3
        simp only [Bool.or_eq_true, decide_eq_true_eq, not_or] at h1 h2
        refine ⟨by omega, by omega, by omega, fun p hp => ?_, fun w hw => ?_⟩
        · obtain ⟨o, ho⟩ := mem_prevs hp
          exact parE_ok (errs_zero parE (by omega) _ ho)
        · obtain ⟨o, ho⟩ := mem_prevs hw
          obtain ⟨a1, a2, a3, a4⟩ := wayE_ok (errs_zero wayE h _ ho)
          exact ⟨a1, a2, a4⟩
structure Snp.Small (s : Snp) : Prop where
  par : ∀ p ∈ s.pars, p.Small ∧ p.sav.state.length ≤ 1048576
  way : ∀ w ∈ s.ways, ∀ l ∈ w.lets, l.tiny
  time : inI s.time
theorem pkOne_len (x : List UInt8) : (pkOne x).length = x.length + 2 := by simp only [pkOne, List.length_append, List.length_cons, List.length_nil]; omega
theorem partB_len (x : List UInt8) : (partB x).length = x.length + 4 := by simp only [partB, List.length_append, numB_len]; omega
theorem flat_map {α β : Type} (f : α → β) (g : β → List UInt8) : ∀ l : List α, (l.map f).flatMap g = l.flatMap fun x => g (f x)
  | [] => rfl
  | a :: l => by simp only [List.map_cons, List.flatMap_cons, flat_map f g l]
theorem wayText_le {w : Wy} (h : w.lets.length ≤ 100) (hs : ∀ l ∈ w.lets, l.tiny) : (wayText w).length ≤ 4000000202 := by
  have h1 := flat_le (fun x : Lt => pkOne x.bytes) 40000002 (l := w.lets) fun x hx => by rw [pkOne_len]; have := (hs x hx).2.2.1; omega
  have h2 : w.lets.length * 40000002 ≤ 100 * 40000002 := Nat.mul_le_mul_right _ h
  simp only [wayText, flat_map, List.length_append, List.length_cons, List.length_nil]
  omega
theorem Snp.bytes_le {s : Snp} (hs : s.Small) (h : s.Right) : s.bytes.length ≤ 8000000000000 := by
  have h1 := flat_le parPart 71000000004 (l := s.pars) fun p hp => by
    have := Par.bytes_le (hs.par p hp).1 (Par.right (h.par p hp))
    unfold parPart; rw [partB_len]; omega
  have h2 := flat_le wayPart 4000000206 (l := s.ways) fun w hw => by
    have := wayText_le (h.way w hw).2.1 (hs.way w hw)
    unfold wayPart; rw [partB_len]; omega
  have h3 : s.pars.length * 71000000004 ≤ 100 * 71000000004 := Nat.mul_le_mul_right _ h.pars
  have h4 : s.ways.length * 4000000206 ≤ 60 * 4000000206 := Nat.mul_le_mul_right _ h.ways
  simp only [Snp.bytes, headB, List.length_append, numB_len, List.length_cons, List.length_nil]
  omega
/-- the document's order of ways -/
theorem ord_eq {w q : Wy} (h : w.badN = false) (hq : q.badN = false) : decide (orI (w.frm - q.frm) (w.to - q.to) ≤ 0) = decide (10 * w.frm + w.to ≤ 10 * q.frm + q.to) := by
  simp only [Wy.badN, isN, Bool.or_eq_false_iff, Bool.not_eq_false', Bool.and_eq_true, decide_eq_true_eq] at h hq
  unfold orI
  split
  · by_cases h1 : w.to - q.to ≤ 0
    · rw [decide_eq_true h1, decide_eq_true (by omega)]
    · rw [decide_eq_false h1, decide_eq_false (by omega)]
  · by_cases h1 : w.frm - q.frm ≤ 0
    · rw [decide_eq_true h1, decide_eq_true (by omega)]
    · rw [decide_eq_false h1, decide_eq_false (by omega)]
end Go.Proofs.Ythgackidonocpaa
namespace Go.Proofs.Ythgackidonocpaa
open Go.RowKit
section
variable {P : Program} {F : Frm} {ops : Array Oper} {K : AS → Prop} {τ : Nat → AV} {hp : List Blk} {N : Nat} {rest : List Oper}
theorem al_wk {σ τ : AS} (h : Wk F σ τ) (hc : AL P F ops K rest τ) : AL P F ops K rest σ := ⟨fun M a w hr => let ⟨M', hr'⟩ := h M a w hr; hc.out M' a w hr'⟩
theorem al_fze (s : Nat) (t : T) {i : Nat} {v : Value} {e : TypeId} {sz n : Nat} {ts : List T} {hp' : List Blk} (ht : T.row n sz ts = t) (h : AL P F ops K rest ⟨upd N s (.c t) τ, hp', N⟩) (hs : τ s = .own i v := by exact rfl) (hi : hp[i]? = some (.row v e sz n ts) := by exact rfl) (hf : evl (hp.set i .dead) = some hp' := by exact rfl) (hN : Nat.blt s N = true := by exact rfl) : AL P F ops K rest ⟨τ, hp, N⟩ := by
  subst ht
  exact al_wk (wk_fz s hs hi hf hN) h
end
end Go.Proofs.Ythgackidonocpaa
namespace Go.Proofs.Ythgackidonocpaa
open Go.RowKit
set_option maxRecDepth 100000 in
set_option maxHeartbeats 4000000 in
theorem isNode_af (n : Int) : AF Try.prog 115 [.lit (.int .i64 n)] (· = .lit (.bool (isN n))) := by
  refine af_enter tok Try.func115 Try.ntmps115 Try.results115 rfl (by kernel_rfl) rfl rfl fun F hX => ?_
  cases d1 : decide (1 ≤ n)
  · repeat (first | refine gG ?_)
    first | refine zR ?_ | refine zQ ?_
    simp only [isN, d1]; rfl
  · repeat (first | refine gG ?_)
    first | refine zR ?_ | refine zQ ?_
    simp only [isN, d1]; rfl
theorem or_at {a b n : Int} {k : Nat} (h : [a, b][k]? = some n) (hz : ∀ x ∈ [a, b].take k, x = 0) (hn : ¬ n = 0) : orI a b = n := by
  unfold orI
  match k, h, hz with
  | 0, h, _ =>
    obtain rfl : a = n := by simpa using h
    rw [if_neg hn]
  | 1, h, hz =>
    obtain rfl : b = n := by simpa using h
    rw [if_pos (hz a (by simp))]
  | k + 2, h, _ => simp at h
set_option maxRecDepth 100000 in
set_option maxHeartbeats 4000000 in
theorem or_af (a b : Int) : AF Try.prog 116 [intRow [a, b]] (· = .lit (.int .i64 (orI a b))) := by
  refine af_enter tok Try.func116 Try.ntmps116 Try.results116 rfl (by kernel_rfl) rfl rfl fun F hX => ?_
  repeat (first | refine gG ?_ | refine zN1 (fun hlen => ?_) | refine zN2 (fun hlen => ?_))
  refine x_loop [2, 5, 8, 9, 10, 11, 12, 13, 14, 15, 16] (fun k : Nat => [(8, .c (.lit (.int .i64 k)))]) (fun _ => []) (fun k => k ≤ 2 ∧ ∀ n ∈ [a, b].take k, n = 0) (fun k => 2 - k) 0 ⟨by omega, by simp⟩ ⟨rfl, trivial⟩ rfl ?_
  rintro k ⟨hk, hz⟩
  repeat (first | refine gG ?_ | refine zN1 (fun hlen => ?_) | refine zN2 (fun hlen => ?_))
  refine x_cond rfl (fun h => ?_) (fun h => ?_)
  · have hk' : k < [a, b].length := by have := of_decide_eq_true h; simp only [List.length_cons, List.length_nil] at this ⊢; omega
    obtain ⟨n, hn⟩ := nth hk'
    have hsn := take_snoc (p := fun n : Int => n = 0) hn hz
    have hat := or_at hn hz
    simp only [List.length_cons, List.length_nil] at hk'
    repeat (first | refine gG ?_ | refine zN1 (fun hlen => ?_) | refine zN2 (fun hlen => ?_))
    refine zIx k hk' ?_
    repeat (first | refine gG ?_ | refine zN1 (fun hlen => ?_) | refine zN2 (fun hlen => ?_))
    refine zEl1 (int_at hn) ?_
    cases c : decide (n = 0)
    · repeat (first | refine gG ?_ | refine zN1 (fun hlen => ?_) | refine zN2 (fun hlen => ?_))
      first | refine zR ?_ | refine zQ ?_
      rw [hat (of_decide_eq_false c)]; rfl
    · repeat (first | refine gG ?_ | refine zN1 (fun hlen => ?_) | refine zN2 (fun hlen => ?_))
      exact ⟨k + 1, ⟨hk', hsn (of_decide_eq_true c)⟩, by omega, x_wkd 0 ⟨rfl, trivial⟩ rfl (by repeat (first | exact ag_refl | refine ag_upd rfl ?_ | refine ag_at rfl rfl ?_))⟩
  · have hk' : k = 2 := by have := of_decide_eq_false h; simp only [List.length_cons, List.length_nil] at this; omega
    subst hk'
    have h1 := hz a (by simp)
    have h2 := hz b (by simp)
    subst h1
    subst h2
    repeat (first | refine gG ?_ | refine zN1 (fun hlen => ?_) | refine zN2 (fun hlen => ?_))
    first | refine zR ?_ | refine zQ ?_
    rfl
theorem par_ref {l : List Par} {k : Nat} {b : Par} (h : l[k]? = some b) : (l.flatMap Par.ts)[k * 8 + 0]? = some (.lit (.int .i64 b.ref)) := by
  have := flat_get Par.ts 8 Par.ts_len h (j := 0) (by omega)
  simpa [Par.ts] using this
theorem way_frm {l : List Wy} {k : Nat} {b : Wy} (h : l[k]? = some b) : (l.flatMap Wy.ts)[k * 3 + 0]? = some (.lit (.int .i64 b.frm)) := by
  have := flat_get Wy.ts 3 Wy.ts_len h (j := 0) (by omega)
  simpa [Wy.ts] using this
theorem way_to {l : List Wy} {k : Nat} {b : Wy} (h : l[k]? = some b) : (l.flatMap Wy.ts)[k * 3 + 1]? = some (.lit (.int .i64 b.to)) := by
  have := flat_get Wy.ts 3 Wy.ts_len h (j := 1) (by omega)
  simpa [Wy.ts] using this
theorem badN_in {w : Wy} (h : w.badN = false) : (1 ≤ w.frm ∧ w.frm ≤ 8) ∧ (1 ≤ w.to ∧ w.to ≤ 8) := by
  simp only [Wy.badN, isN, Bool.or_eq_false_iff, Bool.not_eq_false', Bool.and_eq_true, decide_eq_true_eq] at h
  exact h.1
theorem Snp.check_2 {s : Snp} (h : (decide ((100 : Int) < (s.pars.length : Int)) || decide ((60 : Int) < (s.ways.length : Int))) = true) : s.check = 2 := by unfold Snp.check; rw [if_pos h]
theorem Snp.check_1 {s : Snp} (h : (decide ((100 : Int) < (s.pars.length : Int)) || decide ((60 : Int) < (s.ways.length : Int))) = false) (h2 : decide (s.time < 0) = true) : s.check = 1 := by unfold Snp.check; rw [if_neg (by rw [h]; decide), if_pos h2]
theorem Snp.check_p {s : Snp} (h : (decide ((100 : Int) < (s.pars.length : Int)) || decide ((60 : Int) < (s.ways.length : Int))) = false) (h2 : decide (s.time < 0) = false) (h3 : ¬ errs ((prevs s.pars).map parE) = 0) : s.check = errs ((prevs s.pars).map parE) := by unfold Snp.check; rw [if_neg (by rw [h]; decide), if_neg (by rw [h2]; decide), if_pos h3]
theorem Snp.check_w {s : Snp} (h : (decide ((100 : Int) < (s.pars.length : Int)) || decide ((60 : Int) < (s.ways.length : Int))) = false) (h2 : decide (s.time < 0) = false) (h3 : errs ((prevs s.pars).map parE) = 0) : s.check = errs ((prevs s.ways).map wayE) := by unfold Snp.check; rw [if_neg (by rw [h]; decide), if_neg (by rw [h2]; decide), if_neg (fun g => g h3)]
theorem wayE_1 {w : Wy} {o : Option Wy} (h : w.badN = true) : wayE (w, o) = 1 := by unfold wayE; rw [if_pos h]
theorem wayE_2 {w : Wy} {o : Option Wy} (h : w.badN = false) (h2 : decide ((100 : Int) < (w.lets.length : Int)) = true) : wayE (w, o) = 2 := by unfold wayE; rw [if_neg (by rw [h]; decide), if_pos h2]
theorem wayE_21 {w : Wy} {o : Option Wy} (h : w.badN = false) (h2 : decide ((100 : Int) < (w.lets.length : Int)) = false) (h3 : w.ordB o = true) : wayE (w, o) = 21 := by unfold wayE; rw [if_neg (by rw [h]; decide), if_neg (by rw [h2]; decide), if_pos h3]
theorem wayE_l {w : Wy} {o : Option Wy} (h : w.badN = false) (h2 : decide ((100 : Int) < (w.lets.length : Int)) = false) (h3 : w.ordB o = false) : wayE (w, o) = errs (w.lets.map Lt.check) := by unfold wayE; rw [if_neg (by rw [h]; decide), if_neg (by rw [h2]; decide), if_neg (by rw [h3]; decide)]
theorem parE_c {p : Par} {o : Option Par} (h : ¬ p.check = 0) : parE (p, o) = p.check := by
  cases o with
  | none => rfl
  | some q => simp only [parE]; rw [if_pos h]
theorem parE_21 {p q : Par} (h : p.check = 0) (h2 : decide (p.ref ≤ q.ref) = true) : parE (p, some q) = 21 := by simp only [parE]; rw [if_neg (fun g => g h), if_pos (of_decide_eq_true h2)]
theorem parE_0 {p q : Par} (h : p.check = 0) (h2 : decide (p.ref ≤ q.ref) = false) : parE (p, some q) = 0 := by simp only [parE]; rw [if_neg (fun g => g h), if_neg (of_decide_eq_false h2)]
set_option maxRecDepth 100000 in
set_option maxHeartbeats 4000000 in
theorem checkSnap_af (s : Snp) : AF Try.prog 49 [s.t] (· = .lit (.int .i64 s.check)) := by
  have k2 := @Snp.check_2 s
  have k1 := @Snp.check_1 s
  have kp := @Snp.check_p s
  have kw := @Snp.check_w s
  obtain ⟨tm, l, ws⟩ := s
  dsimp only at k2 k1 kp kw
  generalize (Snp.mk tm l ws).check = ck at *
  refine af_enter tok Try.func49 Try.ntmps49 Try.results49 rfl (by kernel_rfl) rfl rfl fun F hX => ?_
  cases d1 : decide ((100 : Int) < (l.length : Int))
  rotate_left
  · repeat (first | refine gG ?_ | refine zN1 (fun hlen => ?_) | refine zN2 (fun hlen => ?_) | refine zAl (fun _ => ?_) | refine zBf ?_)
    first | refine zR ?_ | refine zQ ?_
    rw [k2 (by rw [d1]; rfl)]; rfl
  cases d2 : decide ((60 : Int) < (ws.length : Int))
  rotate_left
  · repeat (first | refine gG ?_ | refine zN1 (fun hlen => ?_) | refine zN2 (fun hlen => ?_) | refine zAl (fun _ => ?_) | refine zBf ?_)
    first | refine zR ?_ | refine zQ ?_
    rw [k2 (by rw [d1, d2]; rfl)]; rfl
  have j1 : (decide ((100 : Int) < (l.length : Int)) || decide ((60 : Int) < (ws.length : Int))) = false := by rw [d1, d2]; rfl
  cases d3 : decide (tm < 0)
  rotate_left
  · repeat (first | refine gG ?_ | refine zN1 (fun hlen => ?_) | refine zN2 (fun hlen => ?_) | refine zAl (fun _ => ?_) | refine zBf ?_)
    first | refine zR ?_ | refine zQ ?_
    rw [k1 j1 d3]; rfl
  have hl100 : l.length ≤ 100 := by have := of_decide_eq_false d1; omega
  have hw60 : ws.length ≤ 60 := by have := of_decide_eq_false d2; omega
  have kp := kp j1 d3
  have kw := kw j1 d3
  clear k2 k1 j1
  repeat (first | refine gG ?_ | refine zN1 (fun hlen => ?_) | refine zN2 (fun hlen => ?_) | refine zAl (fun _ => ?_) | refine zBf ?_)
  refine x_loop [2, 3, 4, 5, 29, 30, 31, 32, 33, 34, 35, 36, 37, 38, 39, 40, 41, 42, 43, 44, 45, 46, 47, 48, 49, 50, 51, 52, 53] (fun k : Nat => [(29, .c (.lit (.int .i64 k)))]) (fun _ => []) (fun k => k ≤ l.length ∧ ∀ x ∈ (prevs l).take k, parE x = 0) (fun k => l.length - k) 0 ⟨Nat.zero_le _, by simp⟩ ⟨rfl, trivial⟩ rfl ?_
  rintro k ⟨hk, hz⟩
  repeat (first | refine gG ?_ | refine zN1 (fun hlen => ?_) | refine zN2 (fun hlen => ?_) | refine zAl (fun _ => ?_) | refine zBx (fun _ => ?_))
  refine x_cond rfl (fun h => ?_) (fun h => ?_)
  · have hk' : k < l.length := by simpa using h
    obtain ⟨a, ha⟩ := nth hk'
    rcases k with _ | k
    · skip
      have hs := checkParcel_af a
      have ho := prevs_at0 ha
      have he := errs_at parE hz ho
      have hsn := take_snoc (p := fun x => parE x = 0) ho hz
      have pc := fun o => @parE_c a o
      have p0 : parE (a, none) = a.check := rfl
      repeat (first | refine gG ?_ | refine zN1 (fun hlen => ?_) | refine zN2 (fun hlen => ?_) | refine zAl (fun _ => ?_) | refine zBx (fun _ => ?_))
      refine zIx (0) (hk') ?_
      repeat (first | refine gG ?_ | refine zN1 (fun hlen => ?_) | refine zN2 (fun hlen => ?_) | refine zAl (fun _ => ?_) | refine zBx (fun _ => ?_))
      refine zEl (flat_at Par.ts 8 Par.ts_len ha) (Par.ts_len a) ?_
      generalize hca : a.check = ca at *
      obtain ⟨rf, ⟨ac, st, ip⟩, bx, tk, wt, lk⟩ := a
      repeat (first | refine gG ?_ | refine zN1 (fun hlen => ?_) | refine zN2 (fun hlen => ?_) | refine zAl (fun _ => ?_) | refine zBx (fun _ => ?_))
      refine zCall (hs) ?_
      rintro _ rfl
      cases c1 : decide (ca = 0)
      · have c0 : ¬ ca = 0 := of_decide_eq_false c1
        have e := pc none c0
        repeat (first | refine gG ?_ | refine zN1 (fun hlen => ?_) | refine zN2 (fun hlen => ?_) | refine zAl (fun _ => ?_) | refine zBx (fun _ => ?_))
        first | refine zR ?_ | refine zQ ?_
        rw [kp (by rw [he (by omega)]; omega), he (by omega), e]; rfl
      · have c0 : ca = 0 := of_decide_eq_true c1
        repeat (first | refine gG ?_ | refine zN1 (fun hlen => ?_) | refine zN2 (fun hlen => ?_) | refine zAl (fun _ => ?_) | refine zBx (fun _ => ?_))
        refine ac_draw [1, 1, 1, 1, 1, 1, 1, 1, 1, 1, 1, 1, 1, 1] [0, 1, 2, 3, 4, 5, 6, 7, 8, 9, 10, 11, 12, 13] (by kernel_rfl) (by kernel_rfl) ?_
        refine gW ?_
        refine w_nil ?_
        repeat (first | refine gG ?_ | refine zN1 (fun hlen => ?_) | refine zN2 (fun hlen => ?_) | refine zAl (fun _ => ?_) | refine zBx (fun _ => ?_))
        exact ⟨1, ⟨hk', hsn (by omega)⟩, by omega, x_wkd 0 ⟨rfl, trivial⟩ rfl (by repeat (first | exact ag_refl | refine ag_upd rfl ?_ | refine ag_at rfl rfl ?_))⟩
    · have dk : decide ((0 : Int) < ((k + 1 : Nat) : Int)) = true := decide_eq_true (by omega)
      have hs := checkParcel_af a
      obtain ⟨b, hb⟩ : ∃ b, l[k]? = some b := ⟨_, List.getElem?_eq_getElem (by omega)⟩
      have ho := prevs_at ha hb
      have he := errs_at parE hz ho
      have hsn := take_snoc (p := fun x => parE x = 0) ho hz
      have pc := fun o => @parE_c a o
      have p21 := @parE_21 a b
      have p0 := @parE_0 a b
      repeat (first | refine gG ?_ | refine zN1 (fun hlen => ?_) | refine zN2 (fun hlen => ?_) | refine zAl (fun _ => ?_) | refine zBx (fun _ => ?_))
      refine zIx (k + 1) (hk') ?_
      repeat (first | refine gG ?_ | refine zN1 (fun hlen => ?_) | refine zN2 (fun hlen => ?_) | refine zAl (fun _ => ?_) | refine zBx (fun _ => ?_))
      refine zEl (flat_at Par.ts 8 Par.ts_len ha) (Par.ts_len a) ?_
      generalize hca : a.check = ca at *
      obtain ⟨rf, ⟨ac, st, ip⟩, bx, tk, wt, lk⟩ := a
      repeat (first | refine gG ?_ | refine zN1 (fun hlen => ?_) | refine zN2 (fun hlen => ?_) | refine zAl (fun _ => ?_) | refine zBx (fun _ => ?_))
      refine zCall (hs) ?_
      rintro _ rfl
      cases c1 : decide (ca = 0)
      · have c0 : ¬ ca = 0 := of_decide_eq_false c1
        have e := pc (some b) c0
        repeat (first | refine gG ?_ | refine zN1 (fun hlen => ?_) | refine zN2 (fun hlen => ?_) | refine zAl (fun _ => ?_) | refine zBx (fun _ => ?_))
        first | refine zR ?_ | refine zQ ?_
        rw [kp (by rw [he (by omega)]; omega), he (by omega), e]; rfl
      · have c0 : ca = 0 := of_decide_eq_true c1
        have p21 := p21 c0
        have p0 := p0 c0
        dsimp only at p21 p0
        generalize hbr : b.ref = br at *
        repeat (first | refine gG ?_ | refine zN1 (fun hlen => ?_) | refine zN2 (fun hlen => ?_) | refine zAl (fun _ => ?_) | refine zBx (fun _ => ?_))
        refine ac_draw [1, 1, 1, 1, 1, 1, 1, 1, 1, 1, 1, 1, 1, 1] [0, 1, 2, 3, 4, 5, 6, 7, 8, 9, 10, 11, 12, 13] (by kernel_rfl) (by kernel_rfl) ?_
        refine gW ?_
        try (first | (apply w_un; (focus exact rfl); (focus exact rfl); (focus exact rfl); (focus exact rfl)) | (apply w_no; (focus exact rfl); (focus exact rfl); (focus exact rfl); (focus exact rfl); focus (first | rfl | assumption | exact neg_t (by assumption) | exact neg_f (by assumption))) | (apply w_qg; (focus exact rfl); (focus exact rfl); (focus exact rfl); (focus exact rfl); (focus (first | rfl | assumption | exact neg_t (by assumption) | exact neg_f (by assumption))); (focus (intro _; (refine lo_sub rfl rfl (r := (k : Int)) (by rw [IntWalk.i64_in _ (by omega)]; omega) ?_); exact det_refl))))
        (first | (apply w_un; (focus exact rfl); (focus exact rfl); (focus exact rfl); (focus exact rfl)) | (apply w_no; (focus exact rfl); (focus exact rfl); (focus exact rfl); (focus exact rfl); focus (first | rfl | assumption | exact neg_t (by assumption) | exact neg_f (by assumption))) | (apply w_qg; (focus exact rfl); (focus exact rfl); (focus exact rfl); (focus exact rfl); (focus (first | rfl | assumption | exact neg_t (by assumption) | exact neg_f (by assumption))); (focus (intro _; (refine zIx k (show k < l.length by omega) ?_); exact det_refl))))
        try refine gW ?_
        try (first | (apply w_un; (focus exact rfl); (focus exact rfl); (focus exact rfl); (focus exact rfl)) | (apply w_no; (focus exact rfl); (focus exact rfl); (focus exact rfl); (focus exact rfl); focus (first | rfl | assumption | exact neg_t (by assumption) | exact neg_f (by assumption))) | (apply w_qg; (focus exact rfl); (focus exact rfl); (focus exact rfl); (focus exact rfl); (focus (first | rfl | assumption | exact neg_t (by assumption) | exact neg_f (by assumption))); (focus (intro _; (refine zEl1 (by rw [par_ref hb, hbr]) ?_); exact det_refl))))
        try refine gW ?_
        refine w_nil ?_
        cases c2 : decide (rf ≤ br)
        · repeat (first | refine gG ?_ | refine zN1 (fun hlen => ?_) | refine zN2 (fun hlen => ?_) | refine zAl (fun _ => ?_) | refine zBx (fun _ => ?_))
          exact ⟨k + 1 + 1, ⟨hk', hsn (p0 c2)⟩, by omega, x_wkd 0 ⟨rfl, trivial⟩ rfl (by repeat (first | exact ag_refl | refine ag_upd rfl ?_ | refine ag_at rfl rfl ?_))⟩
        · have e := p21 c2
          repeat (first | refine gG ?_ | refine zN1 (fun hlen => ?_) | refine zN2 (fun hlen => ?_) | refine zAl (fun _ => ?_) | refine zBx (fun _ => ?_))
          first | refine zR ?_ | refine zQ ?_
          rw [kp (by rw [he (by omega)]; omega), he (by omega), e]; rfl
  have hk' : k = l.length := by have : ¬ k < l.length := by simpa using h
                                omega
  subst hk'
  rw [← prevs_len l, List.take_length] at hz
  have kw := kw (errs_all parE hz)
  clear kp hz hk h
  repeat (first | refine gG ?_ | refine zN1 (fun hlen => ?_) | refine zN2 (fun hlen => ?_) | refine zAl (fun _ => ?_) | refine zBx (fun _ => ?_))
  refine x_loop [2, 6, 7, 9, 10, 57, 58, 59, 60, 61, 62, 63, 64, 65, 66, 67, 68, 69, 70, 71, 72, 73, 74, 75, 76, 77, 78, 79, 80, 81, 82, 83, 84, 85, 86, 87, 88, 89, 90, 91, 92, 93, 94, 95, 96, 97, 98, 99, 100, 101, 102, 103, 104, 105, 106, 107, 108, 109, 110, 111, 112, 113, 114, 115, 116, 117, 118, 119, 120, 121, 122, 123, 124, 125, 126] (fun k : Nat => [(57, .c (.lit (.int .i64 k)))]) (fun _ => []) (fun k => k ≤ ws.length ∧ ∀ x ∈ (prevs ws).take k, wayE x = 0) (fun k => ws.length - k) 0 ⟨Nat.zero_le _, by simp⟩ ⟨rfl, trivial⟩ rfl ?_
  rintro k ⟨hk, hz⟩
  repeat (first | refine gG ?_ | refine zN1 (fun hlen => ?_) | refine zN2 (fun hlen => ?_) | refine zAl (fun _ => ?_) | refine zBx (fun _ => ?_))
  refine x_cond rfl (fun h => ?_) (fun h => ?_)
  rotate_left
  · have hk' : k = ws.length := by have : ¬ k < ws.length := by simpa using h
                                   omega
    subst hk'
    rw [← prevs_len ws, List.take_length] at hz
    rw [errs_all wayE hz] at kw
    repeat (first | refine gG ?_ | refine zN1 (fun hlen => ?_) | refine zN2 (fun hlen => ?_) | refine zAl (fun _ => ?_) | refine zBx (fun _ => ?_))
    first | refine zR ?_ | refine zQ ?_
    rw [kw]; rfl
  have hk' : k < ws.length := by simpa using h
  obtain ⟨a, ha⟩ := nth hk'
  obtain ⟨o, ho, hord⟩ : ∃ o, (prevs ws)[k]? = some (a, o) ∧ ((k = 0 ∧ o = none) ∨ ∃ j q, k = j + 1 ∧ ws[j]? = some q ∧ o = some q ∧ q.badN = false) := by
    rcases k with _ | k
    · exact ⟨none, prevs_at0 ha, .inl ⟨rfl, rfl⟩⟩
    · obtain ⟨q, hq⟩ : ∃ q, ws[k]? = some q := ⟨_, List.getElem?_eq_getElem (by omega)⟩
      refine ⟨some q, prevs_at ha hq, .inr ⟨k, q, rfl, hq, rfl, ?_⟩⟩
      have hqo : ∃ o', (prevs ws)[k]? = some (q, o') := by
        rcases k with _ | k
        · exact ⟨none, prevs_at0 hq⟩
        · obtain ⟨q', hq'⟩ : ∃ q, ws[k]? = some q := ⟨_, List.getElem?_eq_getElem (by omega)⟩
          exact ⟨some q', prevs_at hq hq'⟩
      obtain ⟨o', ho'⟩ := hqo
      have hm : (q, o') ∈ (prevs ws).take (k + 1) := by
        have : ((prevs ws).take (k + 1))[k]? = some (q, o') := by rw [List.getElem?_take, if_pos (by omega)]; exact ho'
        exact List.mem_of_getElem? this
      exact (wayE_ok (hz _ hm)).1
  have he := errs_at wayE hz ho
  have hsn := take_snoc (p := fun x => wayE x = 0) ho hz
  obtain ⟨we, hWe⟩ : ∃ we, wayE (a, o) = we := ⟨_, rfl⟩
  have w1 : ((!isN a.frm || !isN a.to) || decide (a.frm = a.to)) = true → we = 1 := fun h => hWe ▸ wayE_1 h
  have w2 : ((!isN a.frm || !isN a.to) || decide (a.frm = a.to)) = false → decide ((100 : Int) < (a.lets.length : Int)) = true → we = 2 := fun h h2 => hWe ▸ wayE_2 h h2
  have w21 : ((!isN a.frm || !isN a.to) || decide (a.frm = a.to)) = false → decide ((100 : Int) < (a.lets.length : Int)) = false → ordM a.frm a.to o = true → we = 21 := fun h h2 h3 => hWe ▸ wayE_21 h h2 h3
  have wl : ((!isN a.frm || !isN a.to) || decide (a.frm = a.to)) = false → decide ((100 : Int) < (a.lets.length : Int)) = false → ordM a.frm a.to o = false → we = errs (a.lets.map Lt.check) := fun h h2 h3 => hWe ▸ wayE_l h h2 h3
  have hbi : ((!isN a.frm || !isN a.to) || decide (a.frm = a.to)) = false → (1 ≤ a.frm ∧ a.frm ≤ 8) ∧ (1 ≤ a.to ∧ a.to ≤ 8) := fun h => badN_in h
  rw [hWe] at he hsn
  repeat (first | refine gG ?_ | refine zN1 (fun hlen => ?_) | refine zN2 (fun hlen => ?_) | refine zAl (fun _ => ?_) | refine zBx (fun _ => ?_))
  refine zIx (k) (hk') ?_
  repeat (first | refine gG ?_ | refine zN1 (fun hlen => ?_) | refine zN2 (fun hlen => ?_) | refine zAl (fun _ => ?_) | refine zBx (fun _ => ?_))
  refine zEl (flat_at Wy.ts 3 Wy.ts_len ha) (Wy.ts_len a) ?_
  obtain ⟨fr, to, ls⟩ := a
  dsimp only at w1 w2 w21 wl hbi
  have hi1 := isNode_af fr
  have hi2 := isNode_af to
  generalize hn1 : isN fr = n1 at *
  generalize hn2 : isN to = n2 at *
  cases n1
  · have w1 := w1 (by simp)
    repeat (first | refine gG ?_ | refine zN1 (fun hlen => ?_) | refine zN2 (fun hlen => ?_) | refine zAl (fun _ => ?_) | refine zBx (fun _ => ?_))
    refine zCall (hi1) ?_
    rintro _ rfl
    repeat (first | refine gG ?_ | refine zN1 (fun hlen => ?_) | refine zN2 (fun hlen => ?_) | refine zAl (fun _ => ?_) | refine zBx (fun _ => ?_))
    first | refine zR ?_ | refine zQ ?_
    rw [kw, he (by omega), w1]; rfl
  cases n2
  · have w1 := w1 (by simp)
    repeat (first | refine gG ?_ | refine zN1 (fun hlen => ?_) | refine zN2 (fun hlen => ?_) | refine zAl (fun _ => ?_) | refine zBx (fun _ => ?_))
    refine zCall (hi1) ?_
    rintro _ rfl
    repeat (first | refine gG ?_ | refine zN1 (fun hlen => ?_) | refine zN2 (fun hlen => ?_) | refine zAl (fun _ => ?_) | refine zBx (fun _ => ?_))
    refine zCall (hi2) ?_
    rintro _ rfl
    repeat (first | refine gG ?_ | refine zN1 (fun hlen => ?_) | refine zN2 (fun hlen => ?_) | refine zAl (fun _ => ?_) | refine zBx (fun _ => ?_))
    first | refine zR ?_ | refine zQ ?_
    rw [kw, he (by omega), w1]; rfl
  cases n3 : decide (fr = to)
  rotate_left
  · have w1 := w1 (by rw [n3]; rfl)
    repeat (first | refine gG ?_ | refine zN1 (fun hlen => ?_) | refine zN2 (fun hlen => ?_) | refine zAl (fun _ => ?_) | refine zBx (fun _ => ?_))
    refine zCall (hi1) ?_
    rintro _ rfl
    repeat (first | refine gG ?_ | refine zN1 (fun hlen => ?_) | refine zN2 (fun hlen => ?_) | refine zAl (fun _ => ?_) | refine zBx (fun _ => ?_))
    refine zCall (hi2) ?_
    rintro _ rfl
    repeat (first | refine gG ?_ | refine zN1 (fun hlen => ?_) | refine zN2 (fun hlen => ?_) | refine zAl (fun _ => ?_) | refine zBx (fun _ => ?_))
    first | refine zR ?_ | refine zQ ?_
    rw [kw, he (by omega), w1]; rfl
  have hb0 : ((!true || !true) || decide (fr = to)) = false := by rw [n3]; rfl
  have w2 := w2 hb0
  have w21 := w21 hb0
  have wl := wl hb0
  obtain ⟨hb1, hb2⟩ := hbi hb0
  cases d4 : decide ((100 : Int) < (ls.length : Int))
  rotate_left
  · have w2 := w2 d4
    repeat (first | refine gG ?_ | refine zN1 (fun hlen => ?_) | refine zN2 (fun hlen => ?_) | refine zAl (fun _ => ?_) | refine zBx (fun _ => ?_))
    refine zCall (hi1) ?_
    rintro _ rfl
    repeat (first | refine gG ?_ | refine zN1 (fun hlen => ?_) | refine zN2 (fun hlen => ?_) | refine zAl (fun _ => ?_) | refine zBx (fun _ => ?_))
    refine zCall (hi2) ?_
    rintro _ rfl
    repeat (first | refine gG ?_ | refine zN1 (fun hlen => ?_) | refine zN2 (fun hlen => ?_) | refine zAl (fun _ => ?_) | refine zBx (fun _ => ?_))
    first | refine zR ?_ | refine zQ ?_
    rw [kw, he (by omega), w2]; rfl
  have w21 := w21 d4
  have wl := wl d4
  repeat (first | refine gG ?_ | refine zN1 (fun hlen => ?_) | refine zN2 (fun hlen => ?_) | refine zAl (fun _ => ?_) | refine zBx (fun _ => ?_))
  refine zCall (hi1) ?_
  rintro _ rfl
  repeat (first | refine gG ?_ | refine zN1 (fun hlen => ?_) | refine zN2 (fun hlen => ?_) | refine zAl (fun _ => ?_) | refine zBx (fun _ => ?_))
  refine zCall (hi2) ?_
  rintro _ rfl
  repeat (first | refine gG ?_ | refine zN1 (fun hlen => ?_) | refine zN2 (fun hlen => ?_) | refine zAl (fun _ => ?_) | refine zBx (fun _ => ?_))
  rename_i bw
  refine x_join [86, 87, 88, 89, 90, 91, 92, 93, 94, 95, 96, 97, 98, 99, 100, 101, 102, 103, 104, 105, 106, 107, 108, 109, 110, 111, 112, 85] (fun y : {c : Bool // ordM fr to o = c} => [(85, .c (.lit (.bool y.1)))]) (fun _ => [.box bw 183 [.c (.lit (.int .i64 fr)), .c (.lit (.int .i64 to)), .c (letRow ls)]]) ?_ ?_
  rotate_left
  · rcases hord with ⟨rfl, rfl⟩ | ⟨j, q, rfl, hq, rfl, hqb⟩
    · skip
      refine ac_draw [1, 1, 1, 1, 1, 1, 1, 1, 1, 1, 1, 1, 1, 1, 1, 1, 1, 1, 1, 1, 1, 1, 1, 1, 1, 1, 1, 1] [0, 1, 2, 3, 4, 5, 6, 7, 8, 9, 10, 11, 12, 13, 14, 15, 16, 17, 18, 19, 20, 21, 22, 23, 24, 25, 26, 27] (by kernel_rfl) (by kernel_rfl) ?_
      refine gW ?_
      refine w_nil ?_
      exact ⟨⟨false, rfl⟩, x_wkd 1 ⟨rfl, trivial⟩ rfl (by repeat (first | exact ag_refl | refine ag_upd rfl ?_ | refine ag_at rfl rfl ?_))⟩
    · have dk : decide ((0 : Int) < ((j + 1 : Nat) : Int)) = true := decide_eq_true (by omega)
      obtain ⟨hq1, hq2⟩ := badN_in hqb
      have hq3 := way_frm hq
      have hq4 := way_to hq
      simp only [ordM]
      generalize q.frm = fq at *
      generalize q.to = tq at *
      have hor := or_af (fr - fq) (to - tq)
      generalize hoi : orI (fr - fq) (to - tq) = oi at *
      refine ac_draw [1, 1, 1, 1, 1, 1, 1, 1, 1, 1, 1, 1, 1, 1, 1, 1, 1, 1, 1, 1, 1, 1, 1, 1, 1, 1, 1, 1] [0, 1, 2, 3, 4, 5, 6, 7, 8, 9, 10, 11, 12, 13, 14, 15, 16, 17, 18, 19, 20, 21, 22, 23, 24, 25, 26, 27] (by kernel_rfl) (by kernel_rfl) ?_
      refine gW ?_
      try (first | (apply w_un; (focus exact rfl); (focus exact rfl); (focus exact rfl); (focus exact rfl)) | (apply w_no; (focus exact rfl); (focus exact rfl); (focus exact rfl); (focus exact rfl); focus (first | rfl | assumption | exact neg_t (by assumption) | exact neg_f (by assumption))) | (apply w_qg; (focus exact rfl); (focus exact rfl); (focus exact rfl); (focus exact rfl); (focus (first | rfl | assumption | exact neg_t (by assumption) | exact neg_f (by assumption))); (focus (intro _; (refine lo_sub rfl rfl (r := (j : Int)) (by rw [IntWalk.i64_in _ (by omega)]; omega) ?_); exact det_refl))))
      (first | (apply w_un; (focus exact rfl); (focus exact rfl); (focus exact rfl); (focus exact rfl)) | (apply w_no; (focus exact rfl); (focus exact rfl); (focus exact rfl); (focus exact rfl); focus (first | rfl | assumption | exact neg_t (by assumption) | exact neg_f (by assumption))) | (apply w_qg; (focus exact rfl); (focus exact rfl); (focus exact rfl); (focus exact rfl); (focus (first | rfl | assumption | exact neg_t (by assumption) | exact neg_f (by assumption))); (focus (intro _; (refine zIx j (show j < ws.length by omega) ?_); exact det_refl))))
      try refine gW ?_
      try (first | (apply w_un; (focus exact rfl); (focus exact rfl); (focus exact rfl); (focus exact rfl)) | (apply w_no; (focus exact rfl); (focus exact rfl); (focus exact rfl); (focus exact rfl); focus (first | rfl | assumption | exact neg_t (by assumption) | exact neg_f (by assumption))) | (apply w_qg; (focus exact rfl); (focus exact rfl); (focus exact rfl); (focus exact rfl); (focus (first | rfl | assumption | exact neg_t (by assumption) | exact neg_f (by assumption))); (focus (intro _; (refine zEl1 hq3 ?_); exact det_refl))))
      (first | (apply w_un; (focus exact rfl); (focus exact rfl); (focus exact rfl); (focus exact rfl)) | (apply w_no; (focus exact rfl); (focus exact rfl); (focus exact rfl); (focus exact rfl); focus (first | rfl | assumption | exact neg_t (by assumption) | exact neg_f (by assumption))) | (apply w_qg; (focus exact rfl); (focus exact rfl); (focus exact rfl); (focus exact rfl); (focus (first | rfl | assumption | exact neg_t (by assumption) | exact neg_f (by assumption))); (focus (intro _; (refine lo_sub rfl rfl (r := fr - fq) (by rw [IntWalk.i64_in _ (by omega)]) ?_); exact det_refl))))
      try refine gW ?_
      try (first | (apply w_un; (focus exact rfl); (focus exact rfl); (focus exact rfl); (focus exact rfl)) | (apply w_no; (focus exact rfl); (focus exact rfl); (focus exact rfl); (focus exact rfl); focus (first | rfl | assumption | exact neg_t (by assumption) | exact neg_f (by assumption))) | (apply w_qg; (focus exact rfl); (focus exact rfl); (focus exact rfl); (focus exact rfl); (focus (first | rfl | assumption | exact neg_t (by assumption) | exact neg_f (by assumption))); (focus (intro _; (refine lo_sub rfl rfl (r := (j : Int)) (by rw [IntWalk.i64_in _ (by omega)]; omega) ?_); exact det_refl))))
      (first | (apply w_un; (focus exact rfl); (focus exact rfl); (focus exact rfl); (focus exact rfl)) | (apply w_no; (focus exact rfl); (focus exact rfl); (focus exact rfl); (focus exact rfl); focus (first | rfl | assumption | exact neg_t (by assumption) | exact neg_f (by assumption))) | (apply w_qg; (focus exact rfl); (focus exact rfl); (focus exact rfl); (focus exact rfl); (focus (first | rfl | assumption | exact neg_t (by assumption) | exact neg_f (by assumption))); (focus (intro _; (refine zIx j (show j < ws.length by omega) ?_); exact det_refl))))
      try refine gW ?_
      try (first | (apply w_un; (focus exact rfl); (focus exact rfl); (focus exact rfl); (focus exact rfl)) | (apply w_no; (focus exact rfl); (focus exact rfl); (focus exact rfl); (focus exact rfl); focus (first | rfl | assumption | exact neg_t (by assumption) | exact neg_f (by assumption))) | (apply w_qg; (focus exact rfl); (focus exact rfl); (focus exact rfl); (focus exact rfl); (focus (first | rfl | assumption | exact neg_t (by assumption) | exact neg_f (by assumption))); (focus (intro _; (refine zEl1 hq4 ?_); exact det_refl))))
      (first | (apply w_un; (focus exact rfl); (focus exact rfl); (focus exact rfl); (focus exact rfl)) | (apply w_no; (focus exact rfl); (focus exact rfl); (focus exact rfl); (focus exact rfl); focus (first | rfl | assumption | exact neg_t (by assumption) | exact neg_f (by assumption))) | (apply w_qg; (focus exact rfl); (focus exact rfl); (focus exact rfl); (focus exact rfl); (focus (first | rfl | assumption | exact neg_t (by assumption) | exact neg_f (by assumption))); (focus (intro _; (refine lo_sub rfl rfl (r := to - tq) (by rw [IntWalk.i64_in _ (by omega)]) ?_); exact det_refl))))
      try refine gW ?_
      try (first | (apply w_un; (focus exact rfl); (focus exact rfl); (focus exact rfl); (focus exact rfl)) | (apply w_no; (focus exact rfl); (focus exact rfl); (focus exact rfl); (focus exact rfl); focus (first | rfl | assumption | exact neg_t (by assumption) | exact neg_f (by assumption))) | (apply w_qg; (focus exact rfl); (focus exact rfl); (focus exact rfl); (focus exact rfl); (focus (first | rfl | assumption | exact neg_t (by assumption) | exact neg_f (by assumption))); (focus (intro _; (refine lo_call hor rfl (by repeat (first | exact rzs_nil | apply rzs_cons | exact rz_c | exact rz_nil rfl | apply rz_agg | exact rz_own rfl | apply rz_fn | exact rz_ptr rfl | apply rz_tup)) ?_; rintro _ rfl); exact det_refl))))
      try refine gW ?_
      refine w_nil ?_
      exact ⟨⟨decide (oi ≤ 0), rfl⟩, x_wkd 1 ⟨rfl, trivial⟩ rfl (by repeat (first | exact ag_refl | refine ag_upd rfl ?_ | refine ag_at rfl rfl ?_))⟩
  rintro ⟨c, hc⟩
  dsimp only
  cases c
  rotate_left
  · have w21 := w21 hc
    repeat (first | refine gG ?_ | refine zN1 (fun hlen => ?_) | refine zN2 (fun hlen => ?_) | refine zAl (fun _ => ?_) | refine zBx (fun _ => ?_))
    first | refine zR ?_ | refine zQ ?_
    rw [kw, he (by omega), w21]; rfl
  have wl := wl hc
  repeat (first | refine gG ?_ | refine zN1 (fun hlen => ?_) | refine zN2 (fun hlen => ?_) | refine zAl (fun _ => ?_) | refine zBx (fun _ => ?_))
  refine x_loop [2, 9, 10, 116, 117, 118, 119, 120, 121, 122, 123, 124, 125] (fun j : Nat => [(116, .c (.lit (.int .i64 j)))]) (fun _ => [.box bw 183 [.c (.lit (.int .i64 fr)), .c (.lit (.int .i64 to)), .c (letRow ls)]]) (fun j => j ≤ ls.length ∧ ∀ x ∈ ls.take j, Lt.check x = 0) (fun j => ls.length - j) 0 ⟨Nat.zero_le _, by simp⟩ ⟨rfl, trivial⟩ rfl ?_
  rintro j ⟨hj, hz3⟩
  repeat (first | refine gG ?_ | refine zN1 (fun hlen => ?_) | refine zN2 (fun hlen => ?_) | refine zAl (fun _ => ?_) | refine zBx (fun _ => ?_))
  refine x_cond rfl (fun h => ?_) (fun h => ?_)
  · have hj' : j < ls.length := by simpa using h
    obtain ⟨x, hx⟩ := nth hj'
    have hs := checkLetter_af x
    have he3 := errs_at Lt.check hz3 hx
    have hsn3 := take_snoc (p := fun x => Lt.check x = 0) hx hz3
    repeat (first | refine gG ?_ | refine zN1 (fun hlen => ?_) | refine zN2 (fun hlen => ?_) | refine zAl (fun _ => ?_) | refine zBx (fun _ => ?_))
    refine zIx (j) (hj') ?_
    repeat (first | refine gG ?_ | refine zN1 (fun hlen => ?_) | refine zN2 (fun hlen => ?_) | refine zAl (fun _ => ?_) | refine zBx (fun _ => ?_))
    refine zEl (flat_at Lt.ts 9 Lt.ts_len hx) (Lt.ts_len x) ?_
    generalize hca : x.check = ca at *
    obtain ⟨ka, fa, ta, na, sa, ⟨kv, nv, tv, lv⟩⟩ := x
    repeat (first | refine gG ?_ | refine zN1 (fun hlen => ?_) | refine zN2 (fun hlen => ?_) | refine zAl (fun _ => ?_) | refine zBx (fun _ => ?_))
    refine zCall (hs) ?_
    rintro _ rfl
    cases c2 : decide (ca = 0)
    · have c0 : ¬ ca = 0 := of_decide_eq_false c2
      have e3 := he3 c0
      repeat (first | refine gG ?_ | refine zN1 (fun hlen => ?_) | refine zN2 (fun hlen => ?_) | refine zAl (fun _ => ?_) | refine zBx (fun _ => ?_))
      first | refine zR ?_ | refine zQ ?_
      rw [kw, he (by omega), wl, e3]; rfl
    · have c0 : ca = 0 := of_decide_eq_true c2
      repeat (first | refine gG ?_ | refine zN1 (fun hlen => ?_) | refine zN2 (fun hlen => ?_) | refine zAl (fun _ => ?_) | refine zBx (fun _ => ?_))
      exact ⟨j + 1, ⟨hj', hsn3 c0⟩, by omega, x_wkd 1 ⟨rfl, trivial⟩ rfl (by repeat (first | exact ag_refl | refine ag_upd rfl ?_ | refine ag_at rfl rfl ?_))⟩
  · have hj' : j = ls.length := by have : ¬ j < ls.length := by simpa using h
                                   omega
    subst hj'
    rw [List.take_length] at hz3
    rw [errs_all Lt.check hz3] at wl
    repeat (first | refine gG ?_ | refine zN1 (fun hlen => ?_) | refine zN2 (fun hlen => ?_) | refine zAl (fun _ => ?_) | refine zBx (fun _ => ?_))
    exact ⟨k + 1, ⟨hk', hsn wl⟩, by omega, x_wkd 0 ⟨rfl, trivial⟩ rfl (by repeat (first | exact ag_refl | refine ag_upd rfl ?_ | refine ag_at rfl rfl ?_))⟩
end Go.Proofs.Ythgackidonocpaa
namespace Go.Proofs.Ythgackidonocpaa
open Go.RowKit
theorem shr8 (n : Int) {m : Nat} (h : m ≤ 7) : n.fdiv (2 ^ (min ((8 * m : Nat) : Int).toNat IntKind.i64.bits)) = n / 256 ^ m := by
  have e1 : IntKind.i64.bits = 64 := rfl
  rw [e1, Int.toNat_natCast, Nat.min_eq_left (by omega), Int.fdiv_eq_ediv_of_nonneg _ (Int.pow_nonneg (by omega)), Int.pow_mul]
  rfl
set_option maxRecDepth 100000 in
set_option maxHeartbeats 4000000 in
theorem number_ag (v : Value) (b : List UInt8) (n : Int) (K : Nat) (hK : K ≤ 8) (hb : b.length ≤ 100000000000000) : AG Try.prog 110 [.own 0 v, .c (.lit (.int .i64 n)), .c (.lit (.int .i64 (K : Int)))] [.row v 5 1 b.length (byts b)] (Grew 5 (b ++ numB n K)) := by
  refine ag_enter 1 tok Try.func110 Try.ntmps110 Try.results110 rfl (by kernel_rfl) rfl fun F => ?_
  repeat (first | refine gG ?_ | refine zAp (fun _ => ?_))
  refine lo_sub rfl rfl (r := (K : Int) - 1) (by rw [IntWalk.i64_in _ (by omega)]) ?_
  repeat (first | refine gG ?_ | refine zAp (fun _ => ?_))
  refine x_loop [0, 7, 10, 11, 12, 13, 14, 15, 16, 17, 18, 19, 20, 21] (fun y : Nat × List UInt8 × Value => [(7, .c (.lit (.int .i64 ((y.1 : Int) - 1)))), (0, .own 0 y.2.2)]) (fun y => [.row y.2.2 5 1 y.2.1.length (byts y.2.1)]) (fun y => y.1 ≤ K ∧ y.2.1 ++ numB n y.1 = b ++ numB n K ∧ y.2.1.length + y.1 = b.length + K) (fun y => y.1) (K, b, v) ⟨Nat.le_refl _, rfl, rfl⟩ ⟨rfl, rfl, trivial⟩ rfl ?_
  rintro ⟨m, l, u⟩ ⟨h1, h2, h3⟩
  dsimp only at h1 h2 h3 ⊢
  rcases m with _ | m
  · have d1 : decide ((0 : Int) ≤ ((0 : Nat) : Int) - 1) = false := by decide
    simp only [numB, List.append_nil] at h2
    repeat (first | refine gG ?_ | refine zAp (fun _ => ?_))
    refine zG ?_
    exact ⟨_, rfl, by rw [← h2]⟩
  · have d1 : decide ((0 : Int) ≤ ((m + 1 : Nat) : Int) - 1) = true := decide_eq_true (by omega)
    repeat (first | refine gG ?_ | refine zAp (fun _ => ?_))
    refine lo_mul rfl rfl (r := ((8 * m : Nat) : Int)) (by rw [IntWalk.i64_in _ (by omega)]; omega) ?_
    repeat (first | refine gG ?_ | refine zAp (fun _ => ?_))
    refine lo_shr rfl rfl (by omega) (shr8 n (by omega)) ?_
    repeat (first | refine gG ?_ | refine zAp (fun _ => ?_))
    refine lo_conv tok rfl rfl rfl rfl rfl ?_
    repeat (first | refine gG ?_ | refine zAp (fun _ => ?_))
    refine lo_sub rfl rfl (r := (m : Int) - 1) (by rw [IntWalk.i64_in _ (by omega)]; omega) ?_
    repeat (first | refine gG ?_ | refine zAp (fun _ => ?_))
    exact ⟨(m, l ++ [kb (n / 256 ^ m)], _), ⟨by simp only; omega, by rw [← h2]; simp [numB], by simp only [List.length_append, List.length_cons, List.length_nil]; omega⟩, by simp only; omega, x_wkd 1 ⟨rfl, rfl, trivial⟩ (by rw [byts_app, List.length_append, List.length_cons, List.length_nil, show byts [kb (n / 256 ^ m)] = [bytT (kb (n / 256 ^ m))] from rfl, kb_T]; rfl) (by repeat (first | exact ag_refl | refine ag_upd rfl ?_ | refine ag_at rfl rfl ?_))⟩
set_option maxRecDepth 100000 in
set_option maxHeartbeats 4000000 in
theorem part_ag (v : Value) (b x : List UInt8) (hb : b.length + x.length + 4 ≤ 100000000000000) : AG Try.prog 111 [.own 0 v, .c (bytRow x)] [.row v 5 1 b.length (byts b)] (Grew 5 (b ++ partB x)) := by
  have hc := number_ag v b (x.length : Int) 4 (by omega) (by omega)
  have hln : (b ++ numB (x.length : Int) 4).length = b.length + 4 := by rw [List.length_append, numB_len]
  have e0 : b ++ partB x = b ++ numB (x.length : Int) 4 ++ x := by simp only [partB, List.append_assoc]
  rw [e0]
  generalize b ++ numB (x.length : Int) 4 = b' at *
  refine ag_enter 1 tok Try.func111 Try.ntmps111 Try.results111 rfl (by kernel_rfl) rfl fun F => ?_
  repeat (first | refine gG ?_ | refine zN1 (fun hlen => ?_) | refine zN2 (fun hlen => ?_) | refine zAp (fun _ => ?_))
  refine zCallG [0] hc ?_
  rintro _ _ ⟨v', rfl, rfl⟩
  refine ⟨.own 0 v', _, re_own, rfl, rfl, ?_⟩
  repeat (first | refine gG ?_ | refine zN1 (fun hlen => ?_) | refine zN2 (fun hlen => ?_) | refine zAp (fun _ => ?_))
  refine zG ?_
  exact ⟨_, rfl, by rw [byts_app, List.length_append]⟩
theorem snoc_at {α : Type} {l : List α} {k : Nat} {a : α} (h : l[k]? = some a) : l.take (k + 1) = l.take k ++ [a] := by
  obtain ⟨h1, rfl⟩ := List.getElem?_eq_some_iff.1 h
  rw [List.take_succ_eq_append_getElem h1]
def byRow (ls : List (List UInt8)) : T := .row ls.length 1 (ls.map bytRow)
theorem any_snoc {α : Type} {p : α → Bool} {l : List α} {k : Nat} {a : α} (ha : l[k]? = some a) (h : (l.take k).any p = false) (h0 : p a = false) : (l.take (k + 1)).any p = false := by
  rw [snoc_at ha, List.any_append, h]
  simp [h0]
theorem any_at {α : Type} {p : α → Bool} {l : List α} {k : Nat} {a : α} (ha : l[k]? = some a) (h0 : p a = true) : l.any p = true := List.any_eq_true.2 ⟨a, List.mem_of_getElem? ha, h0⟩
set_option maxRecDepth 100000 in
set_option maxHeartbeats 4000000 in
theorem pack_af (ls : List (List UInt8)) (hb : (ls.flatMap pkOne).length ≤ 100000000000000) : AF Try.prog 178 [byRow ls] (Outs2 (if ls.any bigB = true then [] else ls.flatMap pkOne) (if ls.any bigB = true then 2 else 0)) := by
  refine af_enter tok Try.func178 Try.ntmps178 Try.results178 rfl (by kernel_rfl) rfl rfl fun F hX => ?_
  repeat (first | refine gG ?_ | refine zN1 (fun hlen => ?_) | refine zN2 (fun hlen => ?_) | refine zAp (fun _ => ?_))
  refine x_own 4 5 1 rfl rfl rfl rfl rfl ?_
  refine x_loop [2, 3, 4, 6, 9, 10, 11, 12, 13, 14, 15, 16, 17, 18, 19, 20, 21, 22, 23, 24, 25, 26, 27, 28, 29] (fun y : Nat × Value => [(9, .c (.lit (.int .i64 (y.1 : Nat)))), (4, .own 0 y.2)]) (fun y => [.row y.2 5 1 ((ls.take y.1).flatMap pkOne).length (byts ((ls.take y.1).flatMap pkOne))]) (fun y => y.1 ≤ ls.length ∧ (ls.take y.1).any bigB = false) (fun y => ls.length - y.1) (0, .slice none 0 0) ⟨Nat.zero_le _, rfl⟩ ⟨rfl, rfl, trivial⟩ rfl ?_
  rintro ⟨k, u⟩ ⟨hk, hz⟩
  dsimp only at hk hz ⊢
  repeat (first | refine gG ?_ | refine zN1 (fun hlen => ?_) | refine zN2 (fun hlen => ?_) | refine zAp (fun _ => ?_))
  refine x_cond rfl (fun h => ?_) (fun h => ?_)
  · have hk' : k < ls.length := by simpa using h
    obtain ⟨a, ha⟩ := nth hk'
    have hsn := any_snoc ha hz
    have hat := any_at (p := bigB) ha
    have hfl := flat_snoc' pkOne ha
    have hle := flat_take_le pkOne ls (k + 1)
    rw [hfl, List.length_append, pkOne_len] at hle
    have hbg : bigB a = decide ((65535 : Int) < (a.length : Int)) := rfl
    rw [hbg] at hsn hat
    repeat (first | refine gG ?_ | refine zN1 (fun hlen => ?_) | refine zN2 (fun hlen => ?_) | refine zAp (fun _ => ?_))
    refine zIx k hk' ?_
    repeat (first | refine gG ?_ | refine zN1 (fun hlen => ?_) | refine zN2 (fun hlen => ?_) | refine zAp (fun _ => ?_))
    refine zEl1 (map_at bytRow ha) ?_
    cases c1 : decide ((65535 : Int) < (a.length : Int))
    rotate_left
    · have hat := hat c1
      repeat (first | refine gG ?_ | refine zN1 (fun hlen => ?_) | refine zN2 (fun hlen => ?_) | refine zAp (fun _ => ?_))
      first | refine zR (ts := [bytRow [], .lit (.int .i64 2)]) ?_ | refine zQ (ts := [bytRow [], .lit (.int .i64 2)]) ?_
      rw [hat]; rfl
    have hsn := hsn c1
    have hal : a.length ≤ 65535 := by have := of_decide_eq_false c1; omega
    repeat (first | refine gG ?_ | refine zN1 (fun hlen => ?_) | refine zN2 (fun hlen => ?_) | refine zAp (fun _ => ?_))
    refine lo_shr rfl rfl (by omega) (r := (a.length : Int) / 256) (by rw [Int.fdiv_eq_ediv_of_nonneg _ (by decide)]; rfl) ?_
    repeat (first | refine gG ?_ | refine zN1 (fun hlen => ?_) | refine zN2 (fun hlen => ?_) | refine zAp (fun _ => ?_))
    refine lo_conv tok rfl rfl rfl rfl rfl ?_
    repeat (first | refine gG ?_ | refine zN1 (fun hlen => ?_) | refine zN2 (fun hlen => ?_) | refine zAp (fun _ => ?_))
    refine lo_conv tok rfl rfl rfl rfl rfl ?_
    repeat (first | refine gG ?_ | refine zN1 (fun hlen => ?_) | refine zN2 (fun hlen => ?_) | refine zAp (fun _ => ?_))
    exact ⟨(k + 1, _), ⟨hk', hsn⟩, by simp only; omega, x_wkd 1 ⟨rfl, rfl, trivial⟩ (by rw [hfl, pkOne]; simp only [byts_app, List.length_append, List.length_cons, List.length_nil, show byts [kb ((a.length : Int) / 256), kb (a.length : Int)] = [bytT (kb ((a.length : Int) / 256)), bytT (kb (a.length : Int))] from rfl, kb_T, ← List.append_assoc, ← Nat.add_assoc]; rfl) (by repeat (first | exact ag_refl | refine ag_upd rfl ?_ | refine ag_at rfl rfl ?_))⟩
  · have hk' : k = ls.length := by have : ¬ k < ls.length := by simpa using h
                                   omega
    subst hk'
    rw [List.take_length] at hz ⊢
    repeat (first | refine gG ?_ | refine zN1 (fun hlen => ?_) | refine zN2 (fun hlen => ?_) | refine zAp (fun _ => ?_))
    first | refine zR ?_ | refine zQ ?_
    rw [hz]; rfl
set_option maxRecDepth 100000 in
set_option maxHeartbeats 4000000 in
theorem packedL_af (ls : List Lt) (hs : ∀ l ∈ ls, l.tiny ∧ l.check = 0) (hl : ls.length ≤ 100) : AF Try.prog 112 [letRow ls] (Outs2 (if (ls.map Lt.bytes).any bigB = true then [] else (ls.map Lt.bytes).flatMap pkOne) (if (ls.map Lt.bytes).any bigB = true then 2 else 0)) := by
  have hbl := flat_le (fun x : Lt => pkOne x.bytes) 40000002 (l := ls) fun x hx => by rw [pkOne_len]; have := (hs x hx).1.2.2.1; omega
  have hbm : ls.length * 40000002 ≤ 100 * 40000002 := Nat.mul_le_mul_right _ hl
  have hp := pack_af (ls.map Lt.bytes) (by rw [flat_map]; omega)
  generalize hbo : (if (ls.map Lt.bytes).any bigB = true then [] else (ls.map Lt.bytes).flatMap pkOne) = bo at *
  generalize hbe : (if (ls.map Lt.bytes).any bigB = true then (2 : Int) else 0) = be at *
  refine af_enter tok Try.func112 Try.ntmps112 Try.results112 rfl (by kernel_rfl) rfl rfl fun F hX => ?_
  repeat (first | refine gG ?_ | refine zN1 (fun hlen => ?_) | refine zN2 (fun hlen => ?_) | refine zAl (fun _ => ?_) | refine zAp (fun _ => ?_))
  refine x_own 4 27 1 rfl rfl rfl rfl rfl ?_
  refine x_loop [2, 3, 4, 6, 7, 8, 11, 12, 13, 14, 15, 16, 17, 18, 19, 20, 21, 22, 23, 24, 25, 26, 27] (fun y : Nat × Value => [(11, .c (.lit (.int .i64 (y.1 : Nat)))), (4, .own 0 y.2)]) (fun y => [.row y.2 27 1 ((ls.take y.1).map Lt.bytes).length (((ls.take y.1).map Lt.bytes).map bytRow)]) (fun y => y.1 ≤ ls.length) (fun y => ls.length - y.1) (0, .slice none 0 0) (Nat.zero_le _) ⟨rfl, rfl, trivial⟩ rfl ?_
  rintro ⟨k, u⟩ hk
  dsimp only at hk ⊢
  repeat (first | refine gG ?_ | refine zN1 (fun hlen => ?_) | refine zN2 (fun hlen => ?_) | refine zAl (fun _ => ?_) | refine zAp (fun _ => ?_))
  refine x_cond rfl (fun h => ?_) (fun h => ?_)
  · have hk' : k < ls.length := by simpa using h
    obtain ⟨a, ha⟩ := nth hk'
    obtain ⟨ht, hck⟩ := hs a (List.mem_of_getElem? ha)
    have hw := letterW_af a ht.2.2.2
    have ho : a.out = a.bytes := by rw [Lt.out, if_pos hck]
    rw [ho, hck] at hw
    have hsn := snoc_at ha
    have hll : ((ls.take k).map Lt.bytes).length ≤ 100 := by simp; omega
    repeat (first | refine gG ?_ | refine zN1 (fun hlen => ?_) | refine zN2 (fun hlen => ?_) | refine zAl (fun _ => ?_) | refine zAp (fun _ => ?_))
    refine zIx (k) (hk') ?_
    repeat (first | refine gG ?_ | refine zN1 (fun hlen => ?_) | refine zN2 (fun hlen => ?_) | refine zAl (fun _ => ?_) | refine zAp (fun _ => ?_))
    refine zEl (flat_at Lt.ts 9 Lt.ts_len ha) (Lt.ts_len a) ?_
    have hsn' : (ls.take (k + 1)).map Lt.bytes = (ls.take k).map Lt.bytes ++ [a.bytes] := by rw [hsn, List.map_append]; rfl
    generalize a.bytes = ab at *
    obtain ⟨ka, fa, ta, na, sa, ⟨kv, nv, tv, lv⟩⟩ := a
    repeat (first | refine gG ?_ | refine zN1 (fun hlen => ?_) | refine zN2 (fun hlen => ?_) | refine zAl (fun _ => ?_) | refine zAp (fun _ => ?_))
    refine zCall (hw) ?_
    rintro _ rfl
    repeat (first | refine gG ?_ | refine zN1 (fun hlen => ?_) | refine zN2 (fun hlen => ?_) | refine zAl (fun _ => ?_) | refine zAp (fun _ => ?_))
    exact ⟨(k + 1, _), hk', by simp only; omega, x_wkd 1 ⟨rfl, rfl, trivial⟩ (by simp only [hsn', List.map_append, List.map_cons, List.map_nil, List.length_append, List.length_cons, List.length_nil]; rfl) (by repeat (first | exact ag_refl | refine ag_upd rfl ?_ | refine ag_at rfl rfl ?_))⟩
  · have hk' : k = ls.length := by have : ¬ k < ls.length := by simpa using h
                                   omega
    subst hk'
    rw [List.take_length]
    refine x_fz 4 rfl rfl rfl rfl ?_
    repeat (first | refine gG ?_ | refine zN1 (fun hlen => ?_) | refine zN2 (fun hlen => ?_) | refine zAl (fun _ => ?_) | refine zAp (fun _ => ?_))
    refine zCall (hp) ?_
    rintro _ rfl
    repeat (first | refine gG ?_ | refine zN1 (fun hlen => ?_) | refine zN2 (fun hlen => ?_) | refine zAl (fun _ => ?_) | refine zAp (fun _ => ?_))
    first | refine zR ?_ | refine zQ ?_
    rfl
theorem Snp.err_ne {s : Snp} (h : ¬ s.check = 0) : s.out = [] ∧ s.err = s.check := by
  unfold Snp.out Snp.err
  rw [if_neg h, if_neg h]
  exact ⟨rfl, rfl⟩
theorem Snp.err_eq {s : Snp} (h : s.check = 0) : s.out = (if s.ways.any Wy.big = true then [] else s.bytes) ∧ s.err = if s.ways.any Wy.big = true then 2 else 0 := by
  unfold Snp.out Snp.err
  rw [if_pos h, if_pos h]
  exact ⟨rfl, rfl⟩
theorem wayText_T (fr to : Int) (x : List UInt8) : T.row (2 + x.length) 1 ([T.lit (.int .u8 (IntKind.u8.wrap fr)), T.lit (.int .u8 (IntKind.u8.wrap to))] ++ byts x) = bytRow ([kb fr, kb to] ++ x) := by
  rw [← kb_T, ← kb_T]
  simp only [bytRow, byts_app, List.length_append, List.length_cons, List.length_nil]
  rfl
set_option maxRecDepth 100000 in
set_option maxHeartbeats 4000000 in
theorem storeBytes_af (s : Snp) (hs : s.Small) : AF Try.prog 46 [s.t] (Outs2 s.out s.err) := by
  have hc := checkSnap_af s
  by_cases hyes : s.check = 0
  rotate_left
  · obtain ⟨e1, e2⟩ := Snp.err_ne hyes
    rw [e1, e2]
    have d1 : decide (s.check = 0) = false := decide_eq_false hyes
    generalize s.check = e at *
    obtain ⟨tm, l, ws⟩ := s
    refine af_enter tok Try.func46 Try.ntmps46 Try.results46 rfl (by kernel_rfl) rfl rfl fun F hX => ?_
    repeat (first | refine gG ?_ | refine zN1 (fun hlen => ?_) | refine zN2 (fun hlen => ?_) | refine zAl (fun _ => ?_) | refine zBf ?_ | refine zAp (fun _ => ?_))
    refine zCall (hc) ?_
    rintro _ rfl
    repeat (first | refine gG ?_ | refine zN1 (fun hlen => ?_) | refine zN2 (fun hlen => ?_) | refine zAl (fun _ => ?_) | refine zBx (fun _ => ?_) | refine zAp (fun _ => ?_))
    first | refine zR (ts := [bytRow [], .lit (.int .i64 e)]) ?_ | refine zQ (ts := [bytRow [], .lit (.int .i64 e)]) ?_
    rfl
  obtain ⟨e1, e2⟩ := Snp.err_eq hyes
  rw [e1, e2]
  have hR := Snp.right hyes
  have hbl := Snp.bytes_le hs hR
  rw [hyes] at hc
  clear e1 e2
  obtain ⟨tm, l, ws⟩ := s
  obtain ⟨r1, r2, r3, r4, r5⟩ := hR
  obtain ⟨s1, s2, s3⟩ := hs
  dsimp only at r1 r2 r3 r4 r5 s1 s2 s3 ⊢
  have hbe : (Snp.mk tm l ws).bytes = numB tm 8 ++ [kb (l.length : Int), kb (ws.length : Int)] ++ l.flatMap parPart ++ ws.flatMap wayPart := rfl
  rw [hbe] at hbl ⊢
  simp only [List.length_append, List.length_cons, List.length_nil, numB_len] at hbl
  have hn := ag_nil (Nat.succ_pos 0) (number_ag (.slice none 0 0) [] tm 8 (by omega) (by simp only [List.length_nil]; omega))
  rw [List.nil_append] at hn
  have hnl := numB_len tm 8
  generalize numB tm 8 = hd at *
  have hhd : (hd ++ [kb (l.length : Int), kb (ws.length : Int)]).length = hd.length + 2 := by rw [List.length_append]; rfl
  have hhb : byts (hd ++ [kb (l.length : Int), kb (ws.length : Int)]) = byts hd ++ [T.lit (.int .u8 (IntKind.u8.wrap (l.length : Int))), T.lit (.int .u8 (IntKind.u8.wrap (ws.length : Int)))] := by rw [byts_app, ← kb_T, ← kb_T]; rfl
  generalize hd ++ [kb (l.length : Int), kb (ws.length : Int)] = hd2 at *
  refine af_enter tok Try.func46 Try.ntmps46 Try.results46 rfl (by kernel_rfl) rfl rfl fun F hX => ?_
  repeat (first | refine gG ?_ | refine zN1 (fun hlen => ?_) | refine zN2 (fun hlen => ?_) | refine zAl (fun _ => ?_) | refine zBf ?_ | refine zAp (fun _ => ?_))
  refine zCall (hc) ?_
  rintro _ rfl
  repeat (first | refine gG ?_ | refine zN1 (fun hlen => ?_) | refine zN2 (fun hlen => ?_) | refine zAl (fun _ => ?_) | refine zBx (fun _ => ?_) | refine zAp (fun _ => ?_))
  refine ac_draw [0, 0, 2, 0, 0, 0, 0, 0, 0, 0, 0, 0, 2, 0] [0, 1, 3, 4, 5, 6, 7, 8, 9, 10, 11, 2, 12, 13] (by kernel_rfl) (by kernel_rfl) ?_
  refine gW ?_
  apply w_p; (focus exact rfl); (focus exact rfl); focus (intro _; (refine lo_conv tok rfl rfl rfl rfl rfl ?_); exact det_refl)
  refine gW ?_
  apply w_p; (focus exact rfl); (focus exact rfl); focus (intro _; (refine lo_conv tok rfl rfl rfl rfl rfl ?_); exact det_refl)
  refine gW ?_
  apply w_l; (focus exact rfl); (focus exact rfl); (refine zCallG [] hn ?_; rintro _ _ ⟨v', rfl, rfl⟩; refine ⟨.own 0 v', _, re_own, rfl, rfl, ?_⟩)
  apply w_l; (focus exact rfl); (focus exact rfl); (first | (refine zkL ?_; first | refine zL1 ?_ | refine zL2 ?_ | refine zL3 ?_ | refine zLp ?_) | refine zM ?_ | (refine zkF ?_; first | refine zF1 ?_ | refine zF2 ?_ | refine zF3 ?_) | refine zA ?_ | (refine zkB ?_; first | refine zC5 ?_ | refine zC6 ?_ | refine zC1 ?_ | refine zC2 ?_ | refine zC3 ?_ | refine zC4 ?_ | refine zS5 ?_ | refine zS6 ?_ | refine zS1 ?_ | refine zS2 ?_ | refine zS3 ?_ | refine zS4 ?_ | refine zInc ?_ | refine zQ1 ?_ | refine zQ2 ?_ | refine zQ3 ?_ | refine zQ4 ?_ | refine zQ5 ?_ | refine zQ6 ?_) | (refine zkI ?_; first | refine zN1 (fun hlen => ?_) | refine zN2 (fun hlen => ?_) | refine zN3 ?_ | refine zN4 ?_ | refine zAp (fun _ => ?_)) | refine zS ?_ | refine zAl (fun _ => ?_) | refine zBx (fun _ => ?_) | refine zPt ?_ | refine zPf ?_ | refine zE ?_ | refine zEA ?_ | refine zNot ?_ | refine zBd ?_ | refine zBs ?_ | refine zFn ?_ | refine zK1 ?_ | refine zK2 ?_)
  refine gW ?_
  refine w_nil ?_
  repeat (first | refine gG ?_ | refine zN1 (fun hlen => ?_) | refine zN2 (fun hlen => ?_) | refine zAl (fun _ => ?_) | refine zBx (fun _ => ?_) | refine zAp (fun _ => ?_))
  refine x_loop [2, 3, 5, 7, 8, 9, 35, 36, 37, 38, 39, 40, 41, 42, 43, 44, 45, 46, 47, 48, 49, 50] (fun y : Nat × Value => [(35, .c (.lit (.int .i64 (y.1 : Nat)))), (5, .own 0 y.2)]) (fun y => [.row y.2 5 1 (hd2 ++ (l.take y.1).flatMap parPart).length (byts (hd2 ++ (l.take y.1).flatMap parPart))]) (fun y => y.1 ≤ l.length) (fun y => l.length - y.1) (0, _) (Nat.zero_le _) ⟨rfl, rfl, trivial⟩ (by simp only [List.take_zero, List.flatMap_nil, List.append_nil, hhb, hhd] <;> rfl) ?_
  rintro ⟨k, u⟩ hk
  dsimp only at hk ⊢
  repeat (first | refine gG ?_ | refine zN1 (fun hlen => ?_) | refine zN2 (fun hlen => ?_) | refine zAl (fun _ => ?_) | refine zBx (fun _ => ?_) | refine zAp (fun _ => ?_))
  refine x_cond rfl (fun h => ?_) (fun h => ?_)
  · have hk' : k < l.length := by simpa using h
    obtain ⟨a, ha⟩ := nth hk'
    have hck := r4 a (List.mem_of_getElem? ha)
    have hw := parcelW_af a (s1 a (List.mem_of_getElem? ha)).1
    have ho : a.out = a.bytes := by rw [Par.out, if_pos hck]
    rw [ho, hck] at hw
    have hfl := flat_snoc' parPart ha
    have hle := flat_take_le parPart l (k + 1)
    rw [hfl, List.length_append, parPart, partB_len] at hle
    have hpa := fun v => part_ag v (hd2 ++ (l.take k).flatMap parPart) a.bytes (by rw [List.length_append]; omega)
    have hpp : parPart a = partB a.bytes := rfl
    rw [hpp] at hfl
    generalize a.bytes = ab at *
    repeat (first | refine gG ?_ | refine zN1 (fun hlen => ?_) | refine zN2 (fun hlen => ?_) | refine zAl (fun _ => ?_) | refine zBx (fun _ => ?_) | refine zAp (fun _ => ?_))
    refine zIx (k) (hk') ?_
    repeat (first | refine gG ?_ | refine zN1 (fun hlen => ?_) | refine zN2 (fun hlen => ?_) | refine zAl (fun _ => ?_) | refine zBx (fun _ => ?_) | refine zAp (fun _ => ?_))
    refine zEl (flat_at Par.ts 8 Par.ts_len ha) (Par.ts_len a) ?_
    obtain ⟨rf, ⟨ac, st, ip⟩, bx, tk, wt, lk⟩ := a
    repeat (first | refine gG ?_ | refine zN1 (fun hlen => ?_) | refine zN2 (fun hlen => ?_) | refine zAl (fun _ => ?_) | refine zBx (fun _ => ?_) | refine zAp (fun _ => ?_))
    refine zCall (hw) ?_
    rintro _ rfl
    repeat (first | refine gG ?_ | refine zN1 (fun hlen => ?_) | refine zN2 (fun hlen => ?_) | refine zAl (fun _ => ?_) | refine zBx (fun _ => ?_) | refine zAp (fun _ => ?_))
    refine zCallG [0] (hpa _) ?_
    rintro _ _ ⟨v', rfl, rfl⟩
    refine ⟨.own 0 v', _, re_own, rfl, rfl, ?_⟩
    repeat (first | refine gG ?_ | refine zN1 (fun hlen => ?_) | refine zN2 (fun hlen => ?_) | refine zAl (fun _ => ?_) | refine zBx (fun _ => ?_) | refine zAp (fun _ => ?_))
    exact ⟨(k + 1, v'), hk', by simp only; omega, x_wkd 1 ⟨rfl, rfl, trivial⟩ (by simp only [hfl, List.append_assoc]; rfl) (by repeat (first | exact ag_refl | refine ag_upd rfl ?_ | refine ag_at rfl rfl ?_))⟩
  have hk' : k = l.length := by have : ¬ k < l.length := by simpa using h
                                omega
  subst hk'
  rw [List.take_length]
  have hh3 : (hd2 ++ l.flatMap parPart).length = hd2.length + (l.flatMap parPart).length := List.length_append
  generalize hd2 ++ l.flatMap parPart = hd3 at *
  repeat (first | refine gG ?_ | refine zN1 (fun hlen => ?_) | refine zN2 (fun hlen => ?_) | refine zAl (fun _ => ?_) | refine zBx (fun _ => ?_) | refine zAp (fun _ => ?_))
  refine x_loop [2, 3, 5, 11, 12, 13, 54, 55, 56, 57, 58, 59, 60, 61, 62, 63, 64, 65, 66, 67, 68, 69, 70, 71, 72, 73, 74, 75, 76, 77, 78] (fun y : Nat × Value => [(54, .c (.lit (.int .i64 (y.1 : Nat)))), (5, .own 0 y.2)]) (fun y => [.row y.2 5 1 (hd3 ++ (ws.take y.1).flatMap wayPart).length (byts (hd3 ++ (ws.take y.1).flatMap wayPart))]) (fun y => y.1 ≤ ws.length ∧ (ws.take y.1).any Wy.big = false) (fun y => ws.length - y.1) (0, _) ⟨Nat.zero_le _, rfl⟩ ⟨rfl, rfl, trivial⟩ (by simp only [List.take_zero, List.flatMap_nil, List.append_nil] <;> rfl) ?_
  rintro ⟨k, u2⟩ ⟨hk, hz⟩
  dsimp only at hk hz ⊢
  repeat (first | refine gG ?_ | refine zN1 (fun hlen => ?_) | refine zN2 (fun hlen => ?_) | refine zAl (fun _ => ?_) | refine zBx (fun _ => ?_) | refine zAp (fun _ => ?_))
  refine x_cond rfl (fun h => ?_) (fun h => ?_)
  rotate_left
  · have hk' : k = ws.length := by have : ¬ k < ws.length := by simpa using h
                                   omega
    subst hk'
    rw [List.take_length] at hz ⊢
    repeat (first | refine gG ?_ | refine zN1 (fun hlen => ?_) | refine zN2 (fun hlen => ?_) | refine zAl (fun _ => ?_) | refine zBx (fun _ => ?_) | refine zAp (fun _ => ?_))
    first | refine zR ?_ | refine zQ ?_
    rw [hz]; rfl
  have hk' : k < ws.length := by simpa using h
  obtain ⟨a, ha⟩ := nth hk'
  obtain ⟨q1, q2, q3⟩ := r5 a (List.mem_of_getElem? ha)
  have hti := s2 a (List.mem_of_getElem? ha)
  have hpk := packedL_af a.lets (fun x hx => ⟨hti x hx, q3 x hx⟩) q2
  have hwt := wayText_le q2 hti
  have hsn := any_snoc ha hz
  have hat := any_at (p := Wy.big) ha
  have hbg : a.big = (a.lets.map Lt.bytes).any bigB := rfl
  rw [hbg] at hsn hat
  have hfl := flat_snoc' wayPart ha
  have hle := flat_take_le wayPart ws (k + 1)
  rw [hfl, List.length_append, wayPart, partB_len] at hle
  have hpa := fun v => part_ag v (hd3 ++ (ws.take k).flatMap wayPart) (wayText a) (by rw [List.length_append]; omega)
  have hpp : wayPart a = partB (wayText a) := rfl
  rw [hpp] at hfl
  have htx : wayText a = [kb a.frm, kb a.to] ++ (a.lets.map Lt.bytes).flatMap pkOne := rfl
  have htl : ((a.lets.map Lt.bytes).flatMap pkOne).length ≤ 4000000202 := by rw [htx, List.length_append] at hwt; omega
  generalize (a.lets.map Lt.bytes).flatMap pkOne = px at *
  generalize (a.lets.map Lt.bytes).any bigB = bg at *
  generalize wayText a = wx at *
  repeat (first | refine gG ?_ | refine zN1 (fun hlen => ?_) | refine zN2 (fun hlen => ?_) | refine zAl (fun _ => ?_) | refine zBx (fun _ => ?_) | refine zAp (fun _ => ?_))
  refine zIx (k) (hk') ?_
  repeat (first | refine gG ?_ | refine zN1 (fun hlen => ?_) | refine zN2 (fun hlen => ?_) | refine zAl (fun _ => ?_) | refine zBx (fun _ => ?_) | refine zAp (fun _ => ?_))
  refine zEl (flat_at Wy.ts 3 Wy.ts_len ha) (Wy.ts_len a) ?_
  obtain ⟨fr, to, ls⟩ := a
  dsimp only at htx hpk
  have htt := wayText_T fr to px
  rw [← htx] at htt
  cases bg
  rotate_left
  · have hat := hat rfl
    repeat (first | refine gG ?_ | refine zN1 (fun hlen => ?_) | refine zN2 (fun hlen => ?_) | refine zAl (fun _ => ?_) | refine zBx (fun _ => ?_) | refine zAp (fun _ => ?_))
    refine zCall (hpk) ?_
    rintro _ rfl
    repeat (first | refine gG ?_ | refine zN1 (fun hlen => ?_) | refine zN2 (fun hlen => ?_) | refine zAl (fun _ => ?_) | refine zBx (fun _ => ?_) | refine zAp (fun _ => ?_))
    first | refine zR (ts := [bytRow [], .lit (.int .i64 2)]) ?_ | refine zQ (ts := [bytRow [], .lit (.int .i64 2)]) ?_
    rw [hat]; rfl
  have hsn := hsn rfl
  simp only [Bool.false_eq_true, if_false] at hpk
  repeat (first | refine gG ?_ | refine zN1 (fun hlen => ?_) | refine zN2 (fun hlen => ?_) | refine zAl (fun _ => ?_) | refine zBx (fun _ => ?_) | refine zAp (fun _ => ?_))
  refine zCall (hpk) ?_
  rintro _ rfl
  repeat (first | refine gG ?_ | refine zN1 (fun hlen => ?_) | refine zN2 (fun hlen => ?_) | refine zAl (fun _ => ?_) | refine zBx (fun _ => ?_) | refine zAp (fun _ => ?_))
  refine lo_conv tok rfl rfl rfl rfl rfl ?_
  repeat (first | refine gG ?_ | refine zN1 (fun hlen => ?_) | refine zN2 (fun hlen => ?_) | refine zAl (fun _ => ?_) | refine zBx (fun _ => ?_) | refine zAp (fun _ => ?_))
  refine lo_conv tok rfl rfl rfl rfl rfl ?_
  repeat (first | refine gX ?_ | refine zN1 (fun hlen => ?_) | refine zN2 (fun hlen => ?_) | refine zAl (fun _ => ?_) | refine zBx (fun _ => ?_) | refine zAp (fun _ => ?_))
  refine zBo (fun _ => ?_)
  refine zOp ?_
  refine zM ?_
  refine zOp ?_
  refine zAp (fun _ => ?_)
  refine al_fze 76 (bytRow wx) htt ?_
  repeat (first | refine gG ?_ | refine zN1 (fun hlen => ?_) | refine zN2 (fun hlen => ?_) | refine zAl (fun _ => ?_) | refine zBx (fun _ => ?_) | refine zAp (fun _ => ?_))
  refine zCallG [0] (hpa _) ?_
  rintro _ _ ⟨v', rfl, rfl⟩
  refine ⟨.own 0 v', _, re_own, rfl, rfl, ?_⟩
  repeat (first | refine gG ?_ | refine zN1 (fun hlen => ?_) | refine zN2 (fun hlen => ?_) | refine zAl (fun _ => ?_) | refine zBx (fun _ => ?_) | refine zAp (fun _ => ?_))
  exact ⟨(k + 1, v'), ⟨hk', hsn⟩, by simp only; omega, x_wkd 1 ⟨rfl, rfl, trivial⟩ (by simp only [hfl, List.append_assoc]; rfl) (by repeat (first | exact ag_refl | refine ag_upd rfl ?_ | refine ag_at rfl rfl ?_))⟩
end Go.Proofs.Ythgackidonocpaa
namespace Go.Proofs.Ythgackidonocpaa
open Go.RowKit
theorem isN_eq (n : Int) : (!isN n) = (decide (n < 1) || decide (8 < n)) := by
  unfold isN
  by_cases h1 : n < 1
  · rw [decide_eq_true h1, decide_eq_false (show ¬ 1 ≤ n by omega)]; rfl
  · rw [decide_eq_false h1, decide_eq_true (show 1 ≤ n by omega)]
    by_cases h2 : 8 < n
    · rw [decide_eq_true h2, decide_eq_false (show ¬ n ≤ 8 by omega)]; rfl
    · rw [decide_eq_false h2, decide_eq_true (show n ≤ 8 by omega)]; rfl
theorem bad_eq (fr to : Int) : ((!isN fr || !isN to) || decide (fr = to)) = (decide (fr < 1) || decide (8 < fr) || decide (to < 1) || decide (8 < to) || decide (fr = to)) := by
  rw [isN_eq, isN_eq]
  simp only [Bool.or_assoc]
set_option maxRecDepth 100000 in
set_option maxHeartbeats 4000000 in
theorem snapFault_af (s : Snp) (hsm : s.Small) : AF Try.prog 50 [s.t] (· = .lit (.int .i64 s.check)) := by
  have k2 := @Snp.check_2 s
  have k1 := @Snp.check_1 s
  have kp := @Snp.check_p s
  have kw := @Snp.check_w s
  obtain ⟨s1, s2, s3⟩ := hsm
  obtain ⟨tm, l, ws⟩ := s
  dsimp only at k2 k1 kp kw s1 s2
  clear s3
  generalize (Snp.mk tm l ws).check = ck at *
  refine af_enter tok Try.func50 Try.ntmps50 Try.results50 rfl (by kernel_rfl) rfl rfl fun F hX => ?_
  cases d1 : decide ((100 : Int) < (l.length : Int))
  rotate_left
  · repeat (first | refine gG ?_ | refine zN1 (fun hlen => ?_) | refine zN2 (fun hlen => ?_) | refine zAl (fun _ => ?_) | refine zBf ?_)
    first | refine zR ?_ | refine zQ ?_
    rw [k2 (by rw [d1]; rfl)]; rfl
  cases d2 : decide ((60 : Int) < (ws.length : Int))
  rotate_left
  · repeat (first | refine gG ?_ | refine zN1 (fun hlen => ?_) | refine zN2 (fun hlen => ?_) | refine zAl (fun _ => ?_) | refine zBf ?_)
    first | refine zR ?_ | refine zQ ?_
    rw [k2 (by rw [d1, d2]; rfl)]; rfl
  have j1 : (decide ((100 : Int) < (l.length : Int)) || decide ((60 : Int) < (ws.length : Int))) = false := by rw [d1, d2]; rfl
  cases d3 : decide (tm < 0)
  rotate_left
  · repeat (first | refine gG ?_ | refine zN1 (fun hlen => ?_) | refine zN2 (fun hlen => ?_) | refine zAl (fun _ => ?_) | refine zBf ?_)
    first | refine zR ?_ | refine zQ ?_
    rw [k1 j1 d3]; rfl
  have kp := kp j1 d3
  have kw := kw j1 d3
  clear k2 k1 j1
  repeat (first | refine gG ?_ | refine zN1 (fun hlen => ?_) | refine zN2 (fun hlen => ?_) | refine zAl (fun _ => ?_) | refine zBf ?_)
  refine x_loop [2, 3, 4, 5, 6, 28, 29, 30, 31, 32, 33, 34, 35, 36, 37, 38, 39, 40, 41, 42, 43, 44, 45, 46, 47, 48] (fun y : Nat × Int => [(28, .c (.lit (.int .i64 (y.1 : Nat)))), (3, .c (.lit (.int .i64 y.2)))]) (fun _ => []) (fun y => y.1 ≤ l.length ∧ (∀ x ∈ (prevs l).take y.1, parE x = 0) ∧ ((y.1 = 0 ∧ y.2 = 0) ∨ ∃ j b, y.1 = j + 1 ∧ l[j]? = some b ∧ y.2 = b.ref)) (fun y => l.length - y.1) (0, 0) ⟨Nat.zero_le _, by simp, .inl ⟨rfl, rfl⟩⟩ ⟨rfl, rfl, trivial⟩ rfl ?_
  rintro ⟨k, la⟩ ⟨hk, hz, hla⟩
  dsimp only at hk hz hla ⊢
  repeat (first | refine gG ?_ | refine zN1 (fun hlen => ?_) | refine zN2 (fun hlen => ?_) | refine zAl (fun _ => ?_) | refine zBx (fun _ => ?_))
  refine x_cond rfl (fun h => ?_) (fun h => ?_)
  · have hk' : k < l.length := by simpa using h
    obtain ⟨a, ha⟩ := nth hk'
    have hs := parcelFault_af a (s1 a (List.mem_of_getElem? ha)).1
    have pc := fun o => @parE_c a o
    have har : ∃ j b, k + 1 = j + 1 ∧ l[j]? = some b ∧ a.ref = b.ref := ⟨k, a, rfl, ha, rfl⟩
    rcases hla with ⟨rfl, rfl⟩ | ⟨j, b, rfl, hb, rfl⟩
    · have ho := prevs_at0 ha
      have he := errs_at parE hz ho
      have hsn := take_snoc (p := fun x => parE x = 0) ho hz
      have p0 : parE (a, none) = a.check := rfl
      repeat (first | refine gG ?_ | refine zN1 (fun hlen => ?_) | refine zN2 (fun hlen => ?_) | refine zAl (fun _ => ?_) | refine zBx (fun _ => ?_))
      refine zIx (0) (hk') ?_
      repeat (first | refine gG ?_ | refine zN1 (fun hlen => ?_) | refine zN2 (fun hlen => ?_) | refine zAl (fun _ => ?_) | refine zBx (fun _ => ?_))
      refine zEl (flat_at Par.ts 8 Par.ts_len ha) (Par.ts_len a) ?_
      generalize hca : a.check = ca at *
      obtain ⟨rf, ⟨ac, st, ip⟩, bx, tk, wt, lk⟩ := a
      repeat (first | refine gG ?_ | refine zN1 (fun hlen => ?_) | refine zN2 (fun hlen => ?_) | refine zAl (fun _ => ?_) | refine zBx (fun _ => ?_))
      refine zCall (hs) ?_
      rintro _ rfl
      cases c1 : decide (ca = 0)
      · have c0 : ¬ ca = 0 := of_decide_eq_false c1
        have e := pc none c0
        repeat (first | refine gG ?_ | refine zN1 (fun hlen => ?_) | refine zN2 (fun hlen => ?_) | refine zAl (fun _ => ?_) | refine zBx (fun _ => ?_))
        first | refine zR ?_ | refine zQ ?_
        rw [kp (by rw [he (by omega)]; omega), he (by omega), e]; rfl
      · have c0 : ca = 0 := of_decide_eq_true c1
        repeat (first | refine gG ?_ | refine zN1 (fun hlen => ?_) | refine zN2 (fun hlen => ?_) | refine zAl (fun _ => ?_) | refine zBx (fun _ => ?_))
        exact ⟨(1, rf), ⟨hk', hsn (by omega), .inr har⟩, by simp only; omega, x_wkd 0 ⟨rfl, rfl, trivial⟩ rfl (by repeat (first | exact ag_refl | refine ag_upd rfl ?_ | refine ag_at rfl rfl ?_))⟩
    · have dk : decide ((0 : Int) < ((j + 1 : Nat) : Int)) = true := decide_eq_true (by omega)
      have ho := prevs_at ha hb
      have he := errs_at parE hz ho
      have hsn := take_snoc (p := fun x => parE x = 0) ho hz
      have p21 := @parE_21 a b
      have p0 := @parE_0 a b
      repeat (first | refine gG ?_ | refine zN1 (fun hlen => ?_) | refine zN2 (fun hlen => ?_) | refine zAl (fun _ => ?_) | refine zBx (fun _ => ?_))
      refine zIx (j + 1) (hk') ?_
      repeat (first | refine gG ?_ | refine zN1 (fun hlen => ?_) | refine zN2 (fun hlen => ?_) | refine zAl (fun _ => ?_) | refine zBx (fun _ => ?_))
      refine zEl (flat_at Par.ts 8 Par.ts_len ha) (Par.ts_len a) ?_
      generalize hca : a.check = ca at *
      obtain ⟨rf, ⟨ac, st, ip⟩, bx, tk, wt, lk⟩ := a
      repeat (first | refine gG ?_ | refine zN1 (fun hlen => ?_) | refine zN2 (fun hlen => ?_) | refine zAl (fun _ => ?_) | refine zBx (fun _ => ?_))
      refine zCall (hs) ?_
      rintro _ rfl
      cases c1 : decide (ca = 0)
      · have c0 : ¬ ca = 0 := of_decide_eq_false c1
        have e := pc (some b) c0
        repeat (first | refine gG ?_ | refine zN1 (fun hlen => ?_) | refine zN2 (fun hlen => ?_) | refine zAl (fun _ => ?_) | refine zBx (fun _ => ?_))
        first | refine zR ?_ | refine zQ ?_
        rw [kp (by rw [he (by omega)]; omega), he (by omega), e]; rfl
      · have c0 : ca = 0 := of_decide_eq_true c1
        have p21 := p21 c0
        have p0 := p0 c0
        dsimp only at p21 p0
        cases c2 : decide (rf ≤ b.ref)
        · repeat (first | refine gG ?_ | refine zN1 (fun hlen => ?_) | refine zN2 (fun hlen => ?_) | refine zAl (fun _ => ?_) | refine zBx (fun _ => ?_))
          exact ⟨(j + 1 + 1, rf), ⟨hk', hsn (p0 c2), .inr har⟩, by simp only; omega, x_wkd 0 ⟨rfl, rfl, trivial⟩ rfl (by repeat (first | exact ag_refl | refine ag_upd rfl ?_ | refine ag_at rfl rfl ?_))⟩
        · have e := p21 c2
          repeat (first | refine gG ?_ | refine zN1 (fun hlen => ?_) | refine zN2 (fun hlen => ?_) | refine zAl (fun _ => ?_) | refine zBx (fun _ => ?_))
          first | refine zR ?_ | refine zQ ?_
          rw [kp (by rw [he (by omega)]; omega), he (by omega), e]; rfl
  have hk' : k = l.length := by have : ¬ k < l.length := by simpa using h
                                omega
  subst hk'
  rw [← prevs_len l, List.take_length] at hz
  have kw := kw (errs_all parE hz)
  clear kp hz hk h hla
  repeat (first | refine gG ?_ | refine zN1 (fun hlen => ?_) | refine zN2 (fun hlen => ?_) | refine zAl (fun _ => ?_) | refine zBx (fun _ => ?_))
  refine x_loop [2, 3, 8, 10, 11, 52, 53, 54, 55, 56, 57, 58, 59, 60, 61, 62, 63, 64, 65, 66, 67, 68, 69, 70, 71, 72, 73, 74, 75, 76, 77, 78, 79, 80, 81, 82, 83, 84, 85, 86, 87, 88, 89, 90, 91, 92, 93, 94, 95, 96, 97, 98, 99, 100, 101, 102, 103, 104, 105, 106, 107, 108, 109, 110, 111, 112] (fun y : Nat × Int => [(52, .c (.lit (.int .i64 (y.1 : Nat)))), (3, .c (.lit (.int .i64 y.2)))]) (fun _ => []) (fun y => y.1 ≤ ws.length ∧ (∀ x ∈ (prevs ws).take y.1, wayE x = 0) ∧ ((y.1 = 0 ∧ y.2 = -1) ∨ ∃ j q, y.1 = j + 1 ∧ ws[j]? = some q ∧ y.2 = 10 * q.frm + q.to ∧ q.badN = false)) (fun y => ws.length - y.1) (0, -1) ⟨Nat.zero_le _, by simp, .inl ⟨rfl, rfl⟩⟩ ⟨rfl, rfl, trivial⟩ rfl ?_
  rintro ⟨k, la⟩ ⟨hk, hz, hla⟩
  dsimp only at hk hz hla ⊢
  repeat (first | refine gG ?_ | refine zN1 (fun hlen => ?_) | refine zN2 (fun hlen => ?_) | refine zAl (fun _ => ?_) | refine zBx (fun _ => ?_))
  refine x_cond rfl (fun h => ?_) (fun h => ?_)
  rotate_left
  · have hk' : k = ws.length := by have : ¬ k < ws.length := by simpa using h
                                   omega
    subst hk'
    rw [← prevs_len ws, List.take_length] at hz
    rw [errs_all wayE hz] at kw
    repeat (first | refine gG ?_ | refine zN1 (fun hlen => ?_) | refine zN2 (fun hlen => ?_) | refine zAl (fun _ => ?_) | refine zBx (fun _ => ?_))
    first | refine zR ?_ | refine zQ ?_
    rw [kw]; rfl
  have hk' : k < ws.length := by simpa using h
  obtain ⟨a, ha⟩ := nth hk'
  have hst := s2 a (List.mem_of_getElem? ha)
  obtain ⟨o, ho, hord⟩ : ∃ o, (prevs ws)[k]? = some (a, o) ∧ (a.badN = false → ordM a.frm a.to o = decide (10 * a.frm + a.to ≤ la)) := by
    rcases hla with ⟨rfl, rfl⟩ | ⟨j, q, rfl, hq, rfl, hqb⟩
    · refine ⟨none, prevs_at0 ha, fun hb => ?_⟩
      obtain ⟨b1, b2⟩ := badN_in hb
      exact (decide_eq_false (by omega)).symm
    · exact ⟨some q, prevs_at ha hq, fun hb => ord_eq hb hqb⟩
  have hnx : a.badN = false → ∃ j q, k + 1 = j + 1 ∧ ws[j]? = some q ∧ 10 * a.frm + a.to = 10 * q.frm + q.to ∧ q.badN = false := fun hb => ⟨k, a, rfl, ha, rfl, hb⟩
  have he := errs_at wayE hz ho
  have hsn := take_snoc (p := fun x => wayE x = 0) ho hz
  obtain ⟨we, hWe⟩ : ∃ we, wayE (a, o) = we := ⟨_, rfl⟩
  have hbe : a.badN = (decide (a.frm < 1) || decide (8 < a.frm) || decide (a.to < 1) || decide (8 < a.to) || decide (a.frm = a.to)) := bad_eq a.frm a.to
  have w1 : a.badN = true → we = 1 := fun h => hWe ▸ wayE_1 h
  have w2 : a.badN = false → decide ((100 : Int) < (a.lets.length : Int)) = true → we = 2 := fun h h2 => hWe ▸ wayE_2 h h2
  have w21 : a.badN = false → decide ((100 : Int) < (a.lets.length : Int)) = false → ordM a.frm a.to o = true → we = 21 := fun h h2 h3 => hWe ▸ wayE_21 h h2 h3
  have wl : a.badN = false → decide ((100 : Int) < (a.lets.length : Int)) = false → ordM a.frm a.to o = false → we = errs (a.lets.map Lt.check) := fun h h2 h3 => hWe ▸ wayE_l h h2 h3
  have hbi : a.badN = false → (1 ≤ a.frm ∧ a.frm ≤ 8) ∧ (1 ≤ a.to ∧ a.to ≤ 8) := fun h => badN_in h
  rw [hWe] at he hsn
  clear hWe hla hz
  repeat (first | refine gG ?_ | refine zN1 (fun hlen => ?_) | refine zN2 (fun hlen => ?_) | refine zAl (fun _ => ?_) | refine zBx (fun _ => ?_))
  refine zIx (k) (hk') ?_
  repeat (first | refine gG ?_ | refine zN1 (fun hlen => ?_) | refine zN2 (fun hlen => ?_) | refine zAl (fun _ => ?_) | refine zBx (fun _ => ?_))
  refine zEl (flat_at Wy.ts 3 Wy.ts_len ha) (Wy.ts_len a) ?_
  generalize a.badN = bn at *
  obtain ⟨fr, to, ls⟩ := a
  dsimp only at w1 w2 w21 wl hbi hbe hord hnx hst
  cases n1 : decide (fr < 1)
  rotate_left
  · have w1 := w1 (by rw [hbe, n1]; simp)
    repeat (first | refine gG ?_ | refine zN1 (fun hlen => ?_) | refine zN2 (fun hlen => ?_) | refine zAl (fun _ => ?_) | refine zBx (fun _ => ?_))
    first | refine zR ?_ | refine zQ ?_
    rw [kw, he (by omega), w1]; rfl
  cases n2 : decide (8 < fr)
  rotate_left
  · have w1 := w1 (by rw [hbe, n1, n2]; simp)
    repeat (first | refine gG ?_ | refine zN1 (fun hlen => ?_) | refine zN2 (fun hlen => ?_) | refine zAl (fun _ => ?_) | refine zBx (fun _ => ?_))
    first | refine zR ?_ | refine zQ ?_
    rw [kw, he (by omega), w1]; rfl
  cases n3 : decide (to < 1)
  rotate_left
  · have w1 := w1 (by rw [hbe, n1, n2, n3]; simp)
    repeat (first | refine gG ?_ | refine zN1 (fun hlen => ?_) | refine zN2 (fun hlen => ?_) | refine zAl (fun _ => ?_) | refine zBx (fun _ => ?_))
    first | refine zR ?_ | refine zQ ?_
    rw [kw, he (by omega), w1]; rfl
  cases n4 : decide (8 < to)
  rotate_left
  · have w1 := w1 (by rw [hbe, n1, n2, n3, n4]; simp)
    repeat (first | refine gG ?_ | refine zN1 (fun hlen => ?_) | refine zN2 (fun hlen => ?_) | refine zAl (fun _ => ?_) | refine zBx (fun _ => ?_))
    first | refine zR ?_ | refine zQ ?_
    rw [kw, he (by omega), w1]; rfl
  cases n5 : decide (fr = to)
  rotate_left
  · have w1 := w1 (by rw [hbe, n1, n2, n3, n4, n5]; simp)
    repeat (first | refine gG ?_ | refine zN1 (fun hlen => ?_) | refine zN2 (fun hlen => ?_) | refine zAl (fun _ => ?_) | refine zBx (fun _ => ?_))
    first | refine zR ?_ | refine zQ ?_
    rw [kw, he (by omega), w1]; rfl
  have hb0 : bn = false := by rw [hbe, n1, n2, n3, n4, n5]; rfl
  have w2 := w2 hb0
  have w21 := w21 hb0
  have wl := wl hb0
  have hord := hord hb0
  have hnx := hnx hb0
  obtain ⟨hb1, hb2⟩ := hbi hb0
  cases d4 : decide ((100 : Int) < (ls.length : Int))
  rotate_left
  · have w2 := w2 d4
    repeat (first | refine gG ?_ | refine zN1 (fun hlen => ?_) | refine zN2 (fun hlen => ?_) | refine zAl (fun _ => ?_) | refine zBx (fun _ => ?_))
    first | refine zR ?_ | refine zQ ?_
    rw [kw, he (by omega), w2]; rfl
  have w21 := w21 d4
  have wl := wl d4
  rw [hord] at w21 wl
  clear hord hbi w1 w2 hbe
  repeat (first | refine gG ?_ | refine zN1 (fun hlen => ?_) | refine zN2 (fun hlen => ?_) | refine zAl (fun _ => ?_) | refine zBx (fun _ => ?_))
  refine lo_mul rfl rfl (r := 10 * fr) (by dsimp only; rw [IntWalk.i64_in _ (by omega)]) ?_
  repeat (first | refine gG ?_ | refine zN1 (fun hlen => ?_) | refine zN2 (fun hlen => ?_) | refine zAl (fun _ => ?_) | refine zBx (fun _ => ?_))
  refine lo_add rfl rfl (r := 10 * fr + to) (by dsimp only; rw [IntWalk.i64_in _ (by omega)]) ?_
  cases c3 : decide (10 * fr + to ≤ la)
  rotate_left
  · have w21 := w21 c3
    repeat (first | refine gG ?_ | refine zN1 (fun hlen => ?_) | refine zN2 (fun hlen => ?_) | refine zAl (fun _ => ?_) | refine zBx (fun _ => ?_))
    first | refine zR ?_ | refine zQ ?_
    rw [kw, he (by omega), w21]; rfl
  have wl := wl c3
  repeat (first | refine gG ?_ | refine zN1 (fun hlen => ?_) | refine zN2 (fun hlen => ?_) | refine zAl (fun _ => ?_) | refine zBx (fun _ => ?_))
  refine lo_mul rfl rfl (r := 10 * fr) (by dsimp only; rw [IntWalk.i64_in _ (by omega)]) ?_
  repeat (first | refine gG ?_ | refine zN1 (fun hlen => ?_) | refine zN2 (fun hlen => ?_) | refine zAl (fun _ => ?_) | refine zBx (fun _ => ?_))
  refine lo_add rfl rfl (r := 10 * fr + to) (by dsimp only; rw [IntWalk.i64_in _ (by omega)]) ?_
  repeat (first | refine gG ?_ | refine zN1 (fun hlen => ?_) | refine zN2 (fun hlen => ?_) | refine zAl (fun _ => ?_) | refine zBx (fun _ => ?_))
  rename_i bw _
  refine x_loop [2, 10, 11, 102, 103, 104, 105, 106, 107, 108, 109, 110, 111] (fun j : Nat => [(102, .c (.lit (.int .i64 j)))]) (fun _ => [.box bw 183 [.c (.lit (.int .i64 fr)), .c (.lit (.int .i64 to)), .c (letRow ls)]]) (fun j => j ≤ ls.length ∧ ∀ x ∈ ls.take j, Lt.check x = 0) (fun j => ls.length - j) 0 ⟨Nat.zero_le _, by simp⟩ ⟨rfl, trivial⟩ rfl ?_
  rintro j ⟨hj, hz3⟩
  repeat (first | refine gG ?_ | refine zN1 (fun hlen => ?_) | refine zN2 (fun hlen => ?_) | refine zAl (fun _ => ?_) | refine zBx (fun _ => ?_))
  refine x_cond rfl (fun h => ?_) (fun h => ?_)
  · have hj' : j < ls.length := by simpa using h
    obtain ⟨x, hx⟩ := nth hj'
    have hs : AF Try.prog 29 [x.t] (· = .lit (.int .i64 x.check)) := (by have h := letterFault_af x (hst x (List.mem_of_getElem? hx)).2.1; rw [Lt.fault_eq] at h; exact h)
    have he3 := errs_at Lt.check hz3 hx
    have hsn3 := take_snoc (p := fun x => Lt.check x = 0) hx hz3
    repeat (first | refine gG ?_ | refine zN1 (fun hlen => ?_) | refine zN2 (fun hlen => ?_) | refine zAl (fun _ => ?_) | refine zBx (fun _ => ?_))
    refine zIx (j) (hj') ?_
    repeat (first | refine gG ?_ | refine zN1 (fun hlen => ?_) | refine zN2 (fun hlen => ?_) | refine zAl (fun _ => ?_) | refine zBx (fun _ => ?_))
    refine zEl (flat_at Lt.ts 9 Lt.ts_len hx) (Lt.ts_len x) ?_
    generalize hca : x.check = ca at *
    obtain ⟨ka, fa, ta, na, sa, ⟨kv, nv, tv, lv⟩⟩ := x
    repeat (first | refine gG ?_ | refine zN1 (fun hlen => ?_) | refine zN2 (fun hlen => ?_) | refine zAl (fun _ => ?_) | refine zBx (fun _ => ?_))
    refine zCall (hs) ?_
    rintro _ rfl
    cases c2 : decide (ca = 0)
    · have c0 : ¬ ca = 0 := of_decide_eq_false c2
      have e3 := he3 c0
      repeat (first | refine gG ?_ | refine zN1 (fun hlen => ?_) | refine zN2 (fun hlen => ?_) | refine zAl (fun _ => ?_) | refine zBx (fun _ => ?_))
      first | refine zR ?_ | refine zQ ?_
      rw [kw, he (by omega), wl, e3]; rfl
    · have c0 : ca = 0 := of_decide_eq_true c2
      repeat (first | refine gG ?_ | refine zN1 (fun hlen => ?_) | refine zN2 (fun hlen => ?_) | refine zAl (fun _ => ?_) | refine zBx (fun _ => ?_))
      exact ⟨j + 1, ⟨hj', hsn3 c0⟩, by omega, x_wkd 1 ⟨rfl, trivial⟩ rfl (by repeat (first | exact ag_refl | refine ag_upd rfl ?_ | refine ag_at rfl rfl ?_))⟩
  · have hj' : j = ls.length := by have : ¬ j < ls.length := by simpa using h
                                   omega
    subst hj'
    rw [List.take_length] at hz3
    rw [errs_all Lt.check hz3] at wl
    repeat (first | refine gG ?_ | refine zN1 (fun hlen => ?_) | refine zN2 (fun hlen => ?_) | refine zAl (fun _ => ?_) | refine zBx (fun _ => ?_))
    exact ⟨(k + 1, 10 * fr + to), ⟨hk', hsn wl, .inr hnx⟩, by simp only; omega, x_wkd 0 ⟨rfl, rfl, trivial⟩ rfl (by repeat (first | exact ag_refl | refine ag_upd rfl ?_ | refine ag_at rfl rfl ?_))⟩
end Go.Proofs.Ythgackidonocpaa
namespace Go.Proofs.Ythgackidonocpaa
open Go.RowKit
theorem two_kb (a b : Int) : [T.lit (.int .u8 (IntKind.u8.wrap a)), T.lit (.int .u8 (IntKind.u8.wrap b))] = byts [kb a, kb b] := by rw [← kb_T, ← kb_T]; rfl
theorem four_kb (n : Int) : [T.lit (.int .u8 (IntKind.u8.wrap (n / 16777216))), T.lit (.int .u8 (IntKind.u8.wrap (n / 65536))), T.lit (.int .u8 (IntKind.u8.wrap (n / 256))), T.lit (.int .u8 (IntKind.u8.wrap n))] = byts (numB n 4) := by
  have e : n = n / 256 ^ 0 := by simp
  have e0 : numB n 4 = [kb (n / 16777216), kb (n / 65536), kb (n / 256), kb n] := by
    simp only [numB]
    rw [← e]
    rfl
  rw [e0, ← kb_T, ← kb_T, ← kb_T, ← kb_T]
  rfl
theorem kb_mod (n : Int) : kb (n % 256) = kb n := by unfold kb; rw [Int.emod_emod_of_dvd _ (Int.dvd_refl 256)]
theorem quo_nat (n m : Nat) (hn : n ≤ 9223372036854775807) : IntKind.i64.wrap ((n : Int).tdiv (m : Int)) = (n : Int) / (m : Int) := by
  rw [Int.tdiv_eq_ediv_of_nonneg (by omega)]
  have h1 : (n : Int) / (m : Int) ≤ n := Int.ediv_le_self _ (by omega)
  have h2 : 0 ≤ (n : Int) / (m : Int) := Int.ediv_nonneg (by omega) (by omega)
  rw [IntWalk.i64_in _ (by omega)]
set_option maxRecDepth 100000 in
set_option maxHeartbeats 4000000 in
theorem long_af (x : List UInt8) (hx : x.length ≤ 9000000000000000000) : AF Try.prog 113 [.lit (.string (bs x))] (· = .lit (.string (bs (partB x)))) := by
  have hsz : ((bs x).size : Int) = (x.length : Int) := by rw [bs_size']
  have q1 := quo_nat x.length 16777216 (by omega)
  have q2 := quo_nat x.length 65536 (by omega)
  have q3 := quo_nat x.length 256 (by omega)
  rw [← hsz] at q1 q2 q3
  have hcs := four_kb (x.length : Int)
  have hnl := numB_len (x.length : Int) 4
  rw [← hsz] at hcs
  refine af_enter tok Try.func113 Try.ntmps113 Try.results113 rfl (by kernel_rfl) rfl rfl fun F hX => ?_
  repeat (first | refine gG ?_ | refine zN1 (fun hlen => ?_) | refine zN2 (fun hlen => ?_))
  refine lo_quo rfl rfl (by decide) q1 ?_
  repeat (first | refine gG ?_ | refine zN1 (fun hlen => ?_) | refine zN2 (fun hlen => ?_))
  refine lo_conv tok rfl rfl rfl rfl rfl ?_
  repeat (first | refine gG ?_ | refine zN1 (fun hlen => ?_) | refine zN2 (fun hlen => ?_))
  refine lo_quo rfl rfl (by decide) q2 ?_
  repeat (first | refine gG ?_ | refine zN1 (fun hlen => ?_) | refine zN2 (fun hlen => ?_))
  refine lo_conv tok rfl rfl rfl rfl rfl ?_
  repeat (first | refine gG ?_ | refine zN1 (fun hlen => ?_) | refine zN2 (fun hlen => ?_))
  refine lo_quo rfl rfl (by decide) q3 ?_
  repeat (first | refine gG ?_ | refine zN1 (fun hlen => ?_) | refine zN2 (fun hlen => ?_))
  refine lo_conv tok rfl rfl rfl rfl rfl ?_
  repeat (first | refine gG ?_ | refine zN1 (fun hlen => ?_) | refine zN2 (fun hlen => ?_))
  refine lo_conv tok rfl rfl rfl rfl rfl ?_
  repeat (first | refine gG ?_ | refine zN1 (fun hlen => ?_) | refine zN2 (fun hlen => ?_))
  refine zStr (numB ((bs x).size : Int) 4) hcs rfl ?_
  repeat (first | refine gG ?_ | refine zN1 (fun hlen => ?_) | refine zN2 (fun hlen => ?_))
  refine zCatb (numB ((bs x).size : Int) 4) x (by rw [hsz, hnl]; omega) ?_
  repeat (first | refine gG ?_ | refine zN1 (fun hlen => ?_) | refine zN2 (fun hlen => ?_))
  first | refine zR ?_ | refine zQ ?_
  rw [hsz]; rfl
set_option maxRecDepth 100000 in
set_option maxHeartbeats 4000000 in
theorem rpacked_af (ls : List (List UInt8)) (hb : (ls.flatMap pkOne).length ≤ 100000000000000) : AF Try.prog 114 [byRow ls] (Outs2 (if ls.any bigB = true then [] else ls.flatMap pkOne) (if ls.any bigB = true then 2 else 0)) := by
  refine af_enter tok Try.func114 Try.ntmps114 Try.results114 rfl (by kernel_rfl) rfl rfl fun F hX => ?_
  repeat (first | refine gG ?_ | refine zN1 (fun hlen => ?_) | refine zN2 (fun hlen => ?_))
  refine x_loop [2, 3, 4, 6, 9, 10, 11, 12, 13, 14, 15, 16, 17, 18, 19, 20, 21, 22, 23, 24, 25, 26, 27, 28, 29, 30, 31] (fun y : Nat => [(9, .c (.lit (.int .i64 (y : Nat)))), (4, .c (.lit (.string (bs ((ls.take y).flatMap pkOne)))))]) (fun _ => []) (fun y => y ≤ ls.length ∧ (ls.take y).any bigB = false) (fun y => ls.length - y) 0 ⟨Nat.zero_le _, rfl⟩ ⟨rfl, rfl, trivial⟩ rfl ?_
  rintro k ⟨hk, hz⟩
  repeat (first | refine gG ?_ | refine zN1 (fun hlen => ?_) | refine zN2 (fun hlen => ?_))
  refine x_cond rfl (fun h => ?_) (fun h => ?_)
  · have hk' : k < ls.length := by simpa using h
    obtain ⟨a, ha⟩ := nth hk'
    have hsn := any_snoc ha hz
    have hat := any_at (p := bigB) ha
    have hfl := flat_snoc' pkOne ha
    have hle := flat_take_le pkOne ls (k + 1)
    rw [hfl, List.length_append, pkOne_len] at hle
    have hbg : bigB a = decide ((65535 : Int) < (a.length : Int)) := rfl
    rw [hbg] at hsn hat
    repeat (first | refine gG ?_ | refine zN1 (fun hlen => ?_) | refine zN2 (fun hlen => ?_))
    refine zIx k hk' ?_
    repeat (first | refine gG ?_ | refine zN1 (fun hlen => ?_) | refine zN2 (fun hlen => ?_))
    refine zEl1 (map_at bytRow ha) ?_
    cases c1 : decide ((65535 : Int) < (a.length : Int))
    rotate_left
    · have hat := hat c1
      have c2 : decide ((65536 : Int) ≤ (a.length : Int)) = true := decide_eq_true (by have := of_decide_eq_true c1; omega)
      repeat (first | refine gG ?_ | refine zN1 (fun hlen => ?_) | refine zN2 (fun hlen => ?_))
      first | refine zR (ts := [bytRow [], .lit (.int .i64 2)]) ?_ | refine zQ (ts := [bytRow [], .lit (.int .i64 2)]) ?_
      rw [hat]; rfl
    have hsn := hsn c1
    have hal : a.length ≤ 65535 := by have := of_decide_eq_false c1; omega
    have c2 : decide ((65536 : Int) ≤ (a.length : Int)) = false := decide_eq_false (by omega)
    have q1 := quo_nat a.length 256 (by omega)
    have hcs := two_kb ((a.length : Int) / 256) ((a.length : Int) % 256)
    rw [kb_mod] at hcs
    repeat (first | refine gG ?_ | refine zN1 (fun hlen => ?_) | refine zN2 (fun hlen => ?_))
    refine lo_quo rfl rfl (by decide) q1 ?_
    repeat (first | refine gG ?_ | refine zN1 (fun hlen => ?_) | refine zN2 (fun hlen => ?_))
    refine lo_conv tok rfl rfl rfl rfl rfl ?_
    repeat (first | refine gG ?_ | refine zN1 (fun hlen => ?_) | refine zN2 (fun hlen => ?_))
    refine lo_rem rfl rfl (by decide) (r := (a.length : Int) % 256) (by rw [Int.tmod_eq_emod_of_nonneg (by omega)]) ?_
    repeat (first | refine gG ?_ | refine zN1 (fun hlen => ?_) | refine zN2 (fun hlen => ?_))
    refine lo_conv tok rfl rfl rfl rfl rfl ?_
    repeat (first | refine gG ?_ | refine zN1 (fun hlen => ?_) | refine zN2 (fun hlen => ?_))
    refine zStr [kb ((a.length : Int) / 256), kb (a.length : Int)] hcs rfl ?_
    repeat (first | refine gG ?_ | refine zN1 (fun hlen => ?_) | refine zN2 (fun hlen => ?_))
    refine zStr a rfl rfl ?_
    repeat (first | refine gG ?_ | refine zN1 (fun hlen => ?_) | refine zN2 (fun hlen => ?_))
    refine zCatb [kb ((a.length : Int) / 256), kb (a.length : Int)] a (by first | omega | (simp only [List.length_append, List.length_cons, List.length_nil, sz_len]; omega)) ?_
    repeat (first | refine gG ?_ | refine zN1 (fun hlen => ?_) | refine zN2 (fun hlen => ?_))
    refine zCatb ((ls.take k).flatMap pkOne) ([kb ((a.length : Int) / 256), kb (a.length : Int)] ++ a) (by first | omega | (simp only [List.length_append, List.length_cons, List.length_nil, sz_len]; omega)) ?_
    repeat (first | refine gG ?_ | refine zN1 (fun hlen => ?_) | refine zN2 (fun hlen => ?_))
    exact ⟨k + 1, ⟨hk', hsn⟩, by omega, x_wkd 0 ⟨rfl, by simp only [hfl]; rfl, trivial⟩ rfl (by repeat (first | exact ag_refl | refine ag_upd rfl ?_ | refine ag_at rfl rfl ?_))⟩
  · have hk' : k = ls.length := by have : ¬ k < ls.length := by simpa using h
                                   omega
    subst hk'
    rw [List.take_length] at hz ⊢
    repeat (first | refine gG ?_ | refine zN1 (fun hlen => ?_) | refine zN2 (fun hlen => ?_))
    refine zByt (s := bs (ls.flatMap pkOne)) (by rw [bs_size']; simp only [maxLen]; omega) ?_
    repeat (first | refine gG ?_ | refine zN1 (fun hlen => ?_) | refine zN2 (fun hlen => ?_))
    first | refine zR ?_ | refine zQ ?_
    rw [hz]; rfl
theorem numB_nat (n k : Nat) : numB (n : Int) (k + 1) = kb ((n / 256 ^ k : Nat) : Int) :: numB (n : Int) k := by
  rw [numB]
  congr 2
theorem big_any {α : Type} {f : α → List UInt8} {l : List α} {a : α} (h : a ∈ l) (hb : bigB (f a) = true) : (l.map f).any bigB = true := List.any_eq_true.2 ⟨f a, List.mem_map_of_mem h, hb⟩
theorem pkOne_one (x : List UInt8) : [x].flatMap pkOne = pkOne x := by simp
theorem big_one (x : List UInt8) : [x].any bigB = bigB x := by simp
set_option maxRecDepth 100000 in
set_option maxHeartbeats 4000000 in
theorem snapBytes_af (s : Snp) (hs : s.Small) : AF Try.prog 48 [s.t] (Outs2 s.out s.err) := by
  have hc := snapFault_af s hs
  by_cases hyes : s.check = 0
  rotate_left
  · obtain ⟨e1, e2⟩ := Snp.err_ne hyes
    rw [e1, e2]
    have d1 : decide (s.check = 0) = false := decide_eq_false hyes
    generalize s.check = e at *
    obtain ⟨tm, l, ws⟩ := s
    refine af_enter tok Try.func48 Try.ntmps48 Try.results48 rfl (by kernel_rfl) rfl rfl fun F hX => ?_
    repeat (first | refine gG ?_ | refine zN1 (fun hlen => ?_) | refine zN2 (fun hlen => ?_) | refine zAl (fun _ => ?_) | refine zBf ?_)
    refine zCall (hc) ?_
    rintro _ rfl
    repeat (first | refine gG ?_ | refine zN1 (fun hlen => ?_) | refine zN2 (fun hlen => ?_) | refine zAl (fun _ => ?_) | refine zBx (fun _ => ?_))
    first | refine zR (ts := [bytRow [], .lit (.int .i64 e)]) ?_ | refine zQ (ts := [bytRow [], .lit (.int .i64 e)]) ?_
    rfl
  obtain ⟨e1, e2⟩ := Snp.err_eq hyes
  rw [e1, e2]
  have hR := Snp.right hyes
  have hbl := Snp.bytes_le hs hR
  rw [hyes] at hc
  clear e1 e2
  obtain ⟨tm, l, ws⟩ := s
  obtain ⟨r1, r2, r3, r4, r5⟩ := hR
  obtain ⟨s1, s2, s3⟩ := hs
  dsimp only at r1 r2 r3 r4 r5 s1 s2 s3 ⊢
  have hbe : (Snp.mk tm l ws).bytes = numB tm 8 ++ [kb (l.length : Int), kb (ws.length : Int)] ++ l.flatMap parPart ++ ws.flatMap wayPart := rfl
  rw [hbe] at hbl ⊢
  simp only [List.length_append, List.length_cons, List.length_nil, numB_len] at hbl
  obtain ⟨tm, rfl⟩ := nat_of r1
  unfold inI at s3
  have htk := two_kb (l.length : Int) (ws.length : Int)
  refine af_enter tok Try.func48 Try.ntmps48 Try.results48 rfl (by kernel_rfl) rfl rfl fun F hX => ?_
  repeat (first | refine gG ?_ | refine zN1 (fun hlen => ?_) | refine zN2 (fun hlen => ?_) | refine zAl (fun _ => ?_) | refine zBf ?_)
  refine zCall (hc) ?_
  rintro _ rfl
  repeat (first | refine gG ?_ | refine zN1 (fun hlen => ?_) | refine zN2 (fun hlen => ?_) | refine zAl (fun _ => ?_) | refine zBf ?_)
  refine ac_draw [1, 1, 1, 1] [0, 1, 2, 3] (by kernel_rfl) (by kernel_rfl) ?_
  refine gW ?_
  refine w_nil ?_
  repeat (first | refine gG ?_ | refine zN1 (fun hlen => ?_) | refine zN2 (fun hlen => ?_) | refine zAl (fun _ => ?_) | refine zBf ?_)
  refine x_loop [5, 6, 7, 27, 28, 29, 30, 31, 32, 33, 34, 35, 36, 37, 38, 39] (fun i : Nat => [(6, .c (.lit (.int .i64 (i : Nat)))), (7, .c (.lit (.int .i64 ((tm / 256 ^ i : Nat) : Int)))), (5, .c (.lit (.string (bs (numB (tm : Int) i)))))]) (fun _ => []) (fun i => i ≤ 8) (fun i => 8 - i) 0 (by omega) ⟨rfl, by rw [Nat.pow_zero, Nat.div_one]; rfl, rfl, trivial⟩ rfl ?_
  intro i hi
  repeat (first | refine gG ?_ | refine zN1 (fun hlen => ?_) | refine zN2 (fun hlen => ?_) | refine zAl (fun _ => ?_) | refine zBx (fun _ => ?_))
  refine x_cond rfl (fun h => ?_) (fun h => ?_)
  · have hi' : i < 8 := by have := of_decide_eq_true h; omega
    have hle : tm / 256 ^ i ≤ tm := Nat.div_le_self _ _
    have hds : tm / 256 ^ i / 256 = tm / 256 ^ (i + 1) := by rw [Nat.div_div_eq_div_mul, Nat.pow_succ]
    have hnb := numB_nat tm i
    have hnl := numB_len (tm : Int) i
    generalize hd' : tm / 256 ^ (i + 1) = d' at *
    generalize tm / 256 ^ i = d at *
    have q1 := quo_nat d 256 (by omega)
    have hq : (d : Int) / ((256 : Nat) : Int) = (d' : Int) := by omega
    rw [hq] at q1
    have hcs := one_kb ((d : Int) % 256)
    rw [kb_mod] at hcs
    repeat (first | refine gG ?_ | refine zN1 (fun hlen => ?_) | refine zN2 (fun hlen => ?_) | refine zAl (fun _ => ?_) | refine zBx (fun _ => ?_))
    refine lo_rem rfl rfl (by decide) (r := (d : Int) % 256) (by rw [Int.tmod_eq_emod_of_nonneg (by omega)]) ?_
    repeat (first | refine gG ?_ | refine zN1 (fun hlen => ?_) | refine zN2 (fun hlen => ?_) | refine zAl (fun _ => ?_) | refine zBx (fun _ => ?_))
    refine lo_conv tok rfl rfl rfl rfl rfl ?_
    repeat (first | refine gG ?_ | refine zN1 (fun hlen => ?_) | refine zN2 (fun hlen => ?_) | refine zAl (fun _ => ?_) | refine zBx (fun _ => ?_))
    refine zStr [kb (d : Int)] hcs rfl ?_
    repeat (first | refine gG ?_ | refine zN1 (fun hlen => ?_) | refine zN2 (fun hlen => ?_) | refine zAl (fun _ => ?_) | refine zBx (fun _ => ?_))
    refine zCatb [kb (d : Int)] (numB (tm : Int) i) (by first | omega | (simp only [List.length_append, List.length_cons, List.length_nil, sz_len]; omega)) ?_
    repeat (first | refine gG ?_ | refine zN1 (fun hlen => ?_) | refine zN2 (fun hlen => ?_) | refine zAl (fun _ => ?_) | refine zBx (fun _ => ?_))
    refine lo_quo rfl rfl (by decide) q1 ?_
    repeat (first | refine gG ?_ | refine zN1 (fun hlen => ?_) | refine zN2 (fun hlen => ?_) | refine zAl (fun _ => ?_) | refine zBx (fun _ => ?_))
    exact ⟨i + 1, hi', by omega, x_wkd 0 ⟨rfl, by rw [hd']; rfl, by rw [hnb]; rfl, trivial⟩ rfl (by repeat (first | exact ag_refl | refine ag_upd rfl ?_ | refine ag_at rfl rfl ?_))⟩
  have hi' : i = 8 := by have := of_decide_eq_false h; omega
  subst hi'
  have hnl := numB_len (tm : Int) 8
  repeat (first | refine gG ?_ | refine zN1 (fun hlen => ?_) | refine zN2 (fun hlen => ?_) | refine zAl (fun _ => ?_) | refine zBx (fun _ => ?_))
  refine lo_conv tok rfl rfl rfl rfl rfl ?_
  repeat (first | refine gG ?_ | refine zN1 (fun hlen => ?_) | refine zN2 (fun hlen => ?_) | refine zAl (fun _ => ?_) | refine zBx (fun _ => ?_))
  refine lo_conv tok rfl rfl rfl rfl rfl ?_
  repeat (first | refine gG ?_ | refine zN1 (fun hlen => ?_) | refine zN2 (fun hlen => ?_) | refine zAl (fun _ => ?_) | refine zBx (fun _ => ?_))
  refine zStr [kb (l.length : Int), kb (ws.length : Int)] htk rfl ?_
  repeat (first | refine gG ?_ | refine zN1 (fun hlen => ?_) | refine zN2 (fun hlen => ?_) | refine zAl (fun _ => ?_) | refine zBx (fun _ => ?_))
  refine zCatb (numB (tm : Int) 8) [kb (l.length : Int), kb (ws.length : Int)] (by first | omega | (simp only [List.length_append, List.length_cons, List.length_nil, sz_len]; omega)) ?_
  have hhd : (numB (tm : Int) 8 ++ [kb (l.length : Int), kb (ws.length : Int)]).length = 10 := by rw [List.length_append, hnl]; rfl
  generalize numB (tm : Int) 8 ++ [kb (l.length : Int), kb (ws.length : Int)] = hd2 at *
  repeat (first | refine gG ?_ | refine zN1 (fun hlen => ?_) | refine zN2 (fun hlen => ?_) | refine zAl (fun _ => ?_) | refine zBx (fun _ => ?_))
  refine x_loop [8, 10, 11, 12, 55, 56, 57, 58, 59, 60, 61, 62, 63, 64, 65, 66, 67, 68, 69] (fun y : Nat => [(55, .c (.lit (.int .i64 (y : Nat)))), (8, .c (.lit (.string (bs (hd2 ++ (l.take y).flatMap parPart)))))]) (fun _ => []) (fun y => y ≤ l.length) (fun y => l.length - y) 0 (Nat.zero_le _) ⟨rfl, by simp only [List.take_zero, List.flatMap_nil, List.append_nil] <;> rfl, trivial⟩ rfl ?_
  intro k hk
  repeat (first | refine gG ?_ | refine zN1 (fun hlen => ?_) | refine zN2 (fun hlen => ?_) | refine zAl (fun _ => ?_) | refine zBx (fun _ => ?_))
  refine x_cond rfl (fun h => ?_) (fun h => ?_)
  · have hk' : k < l.length := by simpa using h
    obtain ⟨a, ha⟩ := nth hk'
    have hck := r4 a (List.mem_of_getElem? ha)
    have hw := parcelBytes_af a (s1 a (List.mem_of_getElem? ha)).1
    have ho : a.out = a.bytes := by rw [Par.out, if_pos hck]
    rw [ho, hck] at hw
    have hfl := flat_snoc' parPart ha
    have hle := flat_take_le parPart l (k + 1)
    rw [hfl, List.length_append, parPart, partB_len] at hle
    have hlg := long_af a.bytes (by omega)
    have hpl := partB_len a.bytes
    have hpp : parPart a = partB a.bytes := rfl
    rw [hpp] at hfl
    generalize a.bytes = ab at *
    repeat (first | refine gG ?_ | refine zN1 (fun hlen => ?_) | refine zN2 (fun hlen => ?_) | refine zAl (fun _ => ?_) | refine zBx (fun _ => ?_))
    refine zIx (k) (hk') ?_
    repeat (first | refine gG ?_ | refine zN1 (fun hlen => ?_) | refine zN2 (fun hlen => ?_) | refine zAl (fun _ => ?_) | refine zBx (fun _ => ?_))
    refine zEl (flat_at Par.ts 8 Par.ts_len ha) (Par.ts_len a) ?_
    obtain ⟨rf, ⟨ac, st, ip⟩, bx, tk, wt, lk⟩ := a
    repeat (first | refine gG ?_ | refine zN1 (fun hlen => ?_) | refine zN2 (fun hlen => ?_) | refine zAl (fun _ => ?_) | refine zBx (fun _ => ?_))
    refine zCall (hw) ?_
    rintro _ rfl
    repeat (first | refine gG ?_ | refine zN1 (fun hlen => ?_) | refine zN2 (fun hlen => ?_) | refine zAl (fun _ => ?_) | refine zBx (fun _ => ?_))
    refine zStr ab rfl rfl ?_
    repeat (first | refine gG ?_ | refine zN1 (fun hlen => ?_) | refine zN2 (fun hlen => ?_) | refine zAl (fun _ => ?_) | refine zBx (fun _ => ?_))
    refine zCall (hlg) ?_
    rintro _ rfl
    repeat (first | refine gG ?_ | refine zN1 (fun hlen => ?_) | refine zN2 (fun hlen => ?_) | refine zAl (fun _ => ?_) | refine zBx (fun _ => ?_))
    refine zCatb (hd2 ++ (l.take k).flatMap parPart) (partB ab) (by first | omega | (simp only [List.length_append, List.length_cons, List.length_nil, sz_len]; omega)) ?_
    repeat (first | refine gG ?_ | refine zN1 (fun hlen => ?_) | refine zN2 (fun hlen => ?_) | refine zAl (fun _ => ?_) | refine zBx (fun _ => ?_))
    exact ⟨k + 1, hk', by omega, x_wkd 0 ⟨rfl, by simp only [hfl, List.append_assoc]; rfl, trivial⟩ rfl (by repeat (first | exact ag_refl | refine ag_upd rfl ?_ | refine ag_at rfl rfl ?_))⟩
  have hk' : k = l.length := by have : ¬ k < l.length := by simpa using h
                                omega
  subst hk'
  rw [List.take_length]
  have hh3 : (hd2 ++ l.flatMap parPart).length = hd2.length + (l.flatMap parPart).length := List.length_append
  generalize hd2 ++ l.flatMap parPart = hd3 at *
  repeat (first | refine gG ?_ | refine zN1 (fun hlen => ?_) | refine zN2 (fun hlen => ?_) | refine zAl (fun _ => ?_) | refine zBx (fun _ => ?_))
  refine x_loop [2, 3, 8, 14, 15, 17, 18, 19, 73, 74, 75, 76, 77, 78, 79, 80, 81, 82, 83, 84, 85, 86, 87, 88, 89, 90, 91, 92, 93, 94, 95, 96, 97, 98, 99, 100, 101, 102, 103, 104, 105, 106, 107, 108, 109, 110, 111, 112] (fun y : Nat => [(73, .c (.lit (.int .i64 (y : Nat)))), (8, .c (.lit (.string (bs (hd3 ++ (ws.take y).flatMap wayPart)))))]) (fun _ => []) (fun y => y ≤ ws.length ∧ (ws.take y).any Wy.big = false) (fun y => ws.length - y) 0 ⟨Nat.zero_le _, rfl⟩ ⟨rfl, by simp only [List.take_zero, List.flatMap_nil, List.append_nil] <;> rfl, trivial⟩ rfl ?_
  rintro k ⟨hk, hz⟩
  repeat (first | refine gG ?_ | refine zN1 (fun hlen => ?_) | refine zN2 (fun hlen => ?_) | refine zAl (fun _ => ?_) | refine zBx (fun _ => ?_))
  refine x_cond rfl (fun h => ?_) (fun h => ?_)
  rotate_left
  · have hk' : k = ws.length := by have : ¬ k < ws.length := by simpa using h
                                   omega
    subst hk'
    rw [List.take_length] at hz ⊢
    repeat (first | refine gG ?_ | refine zN1 (fun hlen => ?_) | refine zN2 (fun hlen => ?_) | refine zAl (fun _ => ?_) | refine zBx (fun _ => ?_))
    refine zByt (s := bs (hd3 ++ ws.flatMap wayPart)) (by rw [bs_size', List.length_append]; simp only [maxLen]; omega) ?_
    repeat (first | refine gG ?_ | refine zN1 (fun hlen => ?_) | refine zN2 (fun hlen => ?_) | refine zAl (fun _ => ?_) | refine zBx (fun _ => ?_))
    first | refine zR ?_ | refine zQ ?_
    rw [hz]; rfl
  have hk' : k < ws.length := by simpa using h
  obtain ⟨a, ha⟩ := nth hk'
  obtain ⟨q1, q2, q3⟩ := r5 a (List.mem_of_getElem? ha)
  have hti := s2 a (List.mem_of_getElem? ha)
  have hwt := wayText_le q2 hti
  have hsn := any_snoc ha hz
  have hat := any_at (p := Wy.big) ha
  have hbg : a.big = (a.lets.map Lt.bytes).any bigB := rfl
  rw [hbg] at hsn hat
  have hfl := flat_snoc' wayPart ha
  have hle := flat_take_le wayPart ws (k + 1)
  rw [hfl, List.length_append, wayPart, partB_len] at hle
  have hlg := long_af (wayText a) (by omega)
  have hpl := partB_len (wayText a)
  have hpp : wayPart a = partB (wayText a) := rfl
  rw [hpp] at hfl
  have htx : wayText a = [kb a.frm, kb a.to] ++ (a.lets.map Lt.bytes).flatMap pkOne := rfl
  rw [htx] at hwt
  rw [List.length_append] at hwt
  have hlp := flat_map Lt.bytes pkOne a.lets
  repeat (first | refine gG ?_ | refine zN1 (fun hlen => ?_) | refine zN2 (fun hlen => ?_) | refine zAl (fun _ => ?_) | refine zBx (fun _ => ?_))
  refine zIx (k) (hk') ?_
  repeat (first | refine gG ?_ | refine zN1 (fun hlen => ?_) | refine zN2 (fun hlen => ?_) | refine zAl (fun _ => ?_) | refine zBx (fun _ => ?_))
  refine zEl (flat_at Wy.ts 3 Wy.ts_len ha) (Wy.ts_len a) ?_
  generalize wayText a = wx at *
  obtain ⟨fr, to, ls⟩ := a
  dsimp only at htx hsn hat hwt hti q3 hlp
  have htt := two_kb fr to
  rw [hlp] at htx hwt
  simp only [List.length_cons, List.length_nil] at hwt
  repeat (first | refine gG ?_ | refine zN1 (fun hlen => ?_) | refine zN2 (fun hlen => ?_) | refine zAl (fun _ => ?_) | refine zBx (fun _ => ?_))
  refine lo_conv tok rfl rfl rfl rfl rfl ?_
  repeat (first | refine gG ?_ | refine zN1 (fun hlen => ?_) | refine zN2 (fun hlen => ?_) | refine zAl (fun _ => ?_) | refine zBx (fun _ => ?_))
  refine lo_conv tok rfl rfl rfl rfl rfl ?_
  repeat (first | refine gG ?_ | refine zN1 (fun hlen => ?_) | refine zN2 (fun hlen => ?_) | refine zAl (fun _ => ?_) | refine zBx (fun _ => ?_))
  refine zStr [kb fr, kb to] htt rfl ?_
  repeat (first | refine gG ?_ | refine zN1 (fun hlen => ?_) | refine zN2 (fun hlen => ?_) | refine zAl (fun _ => ?_) | refine zBx (fun _ => ?_))
  rename_i bw
  refine x_loop [2, 3, 15, 17, 18, 19, 88, 89, 90, 91, 92, 93, 94, 95, 96, 97, 98, 99, 100, 101, 102, 103, 104, 105, 106, 107] (fun j : Nat => [(88, .c (.lit (.int .i64 j))), (15, .c (.lit (.string (bs ([kb fr, kb to] ++ (ls.take j).flatMap fun x => pkOne x.bytes)))))]) (fun _ => [.box bw 183 [.c (.lit (.int .i64 fr)), .c (.lit (.int .i64 to)), .c (letRow ls)]]) (fun j => j ≤ ls.length ∧ ∀ x ∈ ls.take j, bigB x.bytes = false) (fun j => ls.length - j) 0 ⟨Nat.zero_le _, by simp⟩ ⟨rfl, rfl, trivial⟩ rfl ?_
  rintro j ⟨hj, hz3⟩
  repeat (first | refine gG ?_ | refine zN1 (fun hlen => ?_) | refine zN2 (fun hlen => ?_) | refine zAl (fun _ => ?_) | refine zBx (fun _ => ?_))
  refine x_cond rfl (fun h => ?_) (fun h => ?_)
  · have hj' : j < ls.length := by simpa using h
    obtain ⟨x, hx⟩ := nth hj'
    have hxt := hti x (List.mem_of_getElem? hx)
    have hxb := hxt.2.2.1
    have hlt := letterText_af' (q3 x (List.mem_of_getElem? hx)) hxt.1 (by omega)
    have hsn3 := take_snoc (p := fun x : Lt => bigB x.bytes = false) hx hz3
    have hpk := rpacked_af [x.bytes] (by rw [pkOne_one, pkOne_len]; omega)
    rw [pkOne_one, big_one] at hpk
    have hbx := fun hb => big_any (f := Lt.bytes) (List.mem_of_getElem? hx) hb
    have hfl3 := flat_snoc' (fun x : Lt => pkOne x.bytes) hx
    have hle3 := flat_take_le (fun x : Lt => pkOne x.bytes) ls (j + 1)
    rw [hfl3, List.length_append] at hle3
    have hpl3 := pkOne_len x.bytes
    repeat (first | refine gG ?_ | refine zN1 (fun hlen => ?_) | refine zN2 (fun hlen => ?_) | refine zAl (fun _ => ?_) | refine zBx (fun _ => ?_))
    refine zIx (j) (hj') ?_
    repeat (first | refine gG ?_ | refine zN1 (fun hlen => ?_) | refine zN2 (fun hlen => ?_) | refine zAl (fun _ => ?_) | refine zBx (fun _ => ?_))
    refine zEl (flat_at Lt.ts 9 Lt.ts_len hx) (Lt.ts_len x) ?_
    generalize x.bytes = xb at *
    obtain ⟨ka, fa, ta, na, sa, ⟨kv, nv, tv, lv⟩⟩ := x
    repeat (first | refine gG ?_ | refine zN1 (fun hlen => ?_) | refine zN2 (fun hlen => ?_) | refine zAl (fun _ => ?_) | refine zBx (fun _ => ?_))
    refine zCall (hlt) ?_
    rintro _ rfl
    repeat (first | refine gG ?_ | refine zN1 (fun hlen => ?_) | refine zN2 (fun hlen => ?_) | refine zAl (fun _ => ?_) | refine zBx (fun _ => ?_))
    refine zByt (s := bs xb) (by rw [bs_size']; simp only [maxLen]; omega) ?_
    cases c2 : bigB xb
    · rw [c2] at hpk
      simp only [Bool.false_eq_true, if_false] at hpk
      repeat (first | refine gG ?_ | refine zN1 (fun hlen => ?_) | refine zN2 (fun hlen => ?_) | refine zAl (fun _ => ?_) | refine zBx (fun _ => ?_))
      refine zCall (hpk) ?_
      rintro _ rfl
      repeat (first | refine gG ?_ | refine zN1 (fun hlen => ?_) | refine zN2 (fun hlen => ?_) | refine zAl (fun _ => ?_) | refine zBx (fun _ => ?_))
      refine zStr (pkOne xb) rfl rfl ?_
      repeat (first | refine gG ?_ | refine zN1 (fun hlen => ?_) | refine zN2 (fun hlen => ?_) | refine zAl (fun _ => ?_) | refine zBx (fun _ => ?_))
      refine zCatb ([kb fr, kb to] ++ (ls.take j).flatMap fun x => pkOne x.bytes) (pkOne xb) (by first | omega | (simp only [List.length_append, List.length_cons, List.length_nil, sz_len]; omega)) ?_
      repeat (first | refine gG ?_ | refine zN1 (fun hlen => ?_) | refine zN2 (fun hlen => ?_) | refine zAl (fun _ => ?_) | refine zBx (fun _ => ?_))
      exact ⟨j + 1, ⟨hj', hsn3 c2⟩, by omega, x_wkd 1 ⟨rfl, by simp only [hfl3, List.append_assoc]; rfl, trivial⟩ rfl (by repeat (first | exact ag_refl | refine ag_upd rfl ?_ | refine ag_at rfl rfl ?_))⟩
    · have hat := hat (hbx c2)
      rw [c2] at hpk
      simp only [if_true] at hpk
      repeat (first | refine gG ?_ | refine zN1 (fun hlen => ?_) | refine zN2 (fun hlen => ?_) | refine zAl (fun _ => ?_) | refine zBx (fun _ => ?_))
      refine zCall (hpk) ?_
      rintro _ rfl
      repeat (first | refine gG ?_ | refine zN1 (fun hlen => ?_) | refine zN2 (fun hlen => ?_) | refine zAl (fun _ => ?_) | refine zBx (fun _ => ?_))
      first | refine zR (ts := [bytRow [], .lit (.int .i64 2)]) ?_ | refine zQ (ts := [bytRow [], .lit (.int .i64 2)]) ?_
      rw [hat]; rfl
  have hj' : j = ls.length := by have : ¬ j < ls.length := by simpa using h
                                 omega
  subst hj'
  rw [List.take_length] at hz3 ⊢
  rw [← htx]
  have hno : (ls.map Lt.bytes).any bigB = false := by
    rw [List.any_eq_false]
    intro y hy
    obtain ⟨x, hx, rfl⟩ := List.mem_map.1 hy
    rw [hz3 x hx]; decide
  have hsn := hsn hno
  repeat (first | refine gG ?_ | refine zN1 (fun hlen => ?_) | refine zN2 (fun hlen => ?_) | refine zAl (fun _ => ?_) | refine zBx (fun _ => ?_))
  refine zCall (hlg) ?_
  rintro _ rfl
  repeat (first | refine gG ?_ | refine zN1 (fun hlen => ?_) | refine zN2 (fun hlen => ?_) | refine zAl (fun _ => ?_) | refine zBx (fun _ => ?_))
  refine zCatb (hd3 ++ (ws.take k).flatMap wayPart) (partB wx) (by first | omega | (simp only [List.length_append, List.length_cons, List.length_nil, sz_len]; omega)) ?_
  repeat (first | refine gG ?_ | refine zN1 (fun hlen => ?_) | refine zN2 (fun hlen => ?_) | refine zAl (fun _ => ?_) | refine zBx (fun _ => ?_))
  exact ⟨k + 1, ⟨hk', hsn⟩, by omega, x_wkd 0 ⟨rfl, by simp only [hfl, List.append_assoc]; rfl, trivial⟩ rfl (by repeat (first | exact ag_refl | refine ag_upd rfl ?_ | refine ag_at rfl rfl ?_))⟩
end Go.Proofs.Ythgackidonocpaa
