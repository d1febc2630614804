/-
  Texts of this proof, part 8: Tsw Tsf Tqd Tlf.
-/
import Derived.Test.YthgackidonocpaaQStoreWritten7
import Derived.MapKept
namespace Go.Proofs.Ythgackidonocpaa
open Go.RowKit
theorem Sav.check_3 {s : Sav} (h : (decide ((s.actor.size : Int) < 1) || decide ((16 : Int) < (s.actor.size : Int))) = true) : s.check = 3 := by unfold Sav.check; rw [if_pos h]
theorem Sav.check_2 {s : Sav} (h : (decide ((s.actor.size : Int) < 1) || decide ((16 : Int) < (s.actor.size : Int))) = false) (h2 : (decide ((6 : Int) < (s.state.length : Int)) || decide ((2000 : Int) < (s.inputs.length : Int))) = true) : s.check = 2 := by unfold Sav.check; rw [if_neg (by rw [h]; decide), if_pos h2]
theorem Sav.check_r {s : Sav} (h : (decide ((s.actor.size : Int) < 1) || decide ((16 : Int) < (s.actor.size : Int))) = false) (h2 : (decide ((6 : Int) < (s.state.length : Int)) || decide ((2000 : Int) < (s.inputs.length : Int))) = false) : s.check = if errs (s.state.map V.check) = 0 then errs (s.inputs.map Inp.check) else errs (s.state.map V.check) := by unfold Sav.check; rw [if_neg (by rw [h]; decide), if_neg (by rw [h2]; decide)]
theorem Inp.check_bad {x : Inp} (h : x.bad = true) : x.check = 3 := by unfold Inp.check; rw [if_pos h]
theorem Inp.check_3 {x : Inp} (h : x.bad = false) (h3 : x.kind = 3) : x.check = 0 := by unfold Inp.check; rw [if_neg (by rw [h]; decide), if_pos (decide_eq_true h3)]
theorem Inp.check_v {x : Inp} (h : x.bad = false) (h3 : ¬ x.kind = 3) : x.check = x.val.check := by unfold Inp.check; rw [if_neg (by rw [h]; decide), if_neg (by simpa using h3)]
set_option maxRecDepth 100000 in
set_option maxHeartbeats 4000000 in
theorem checkSaved_af (s : Sav) : AF Try.prog 36 [s.t] (· = .lit (.int .i64 s.check)) := by
  have k3 := @Sav.check_3 s
  have k2 := @Sav.check_2 s
  have kr := @Sav.check_r s
  obtain ⟨ac, st, l⟩ := s
  dsimp only at k3 k2 kr
  generalize hck : (Sav.mk ac st l).check = ck at *
  refine af_enter tok Try.func36 Try.ntmps36 Try.results36 rfl (by kernel_rfl) rfl rfl fun F hX => ?_
  cases d1 : decide ((ac.size : Int) < 1)
  rotate_left
  · repeat (first | refine gG ?_ | refine zN1 (fun hlen => ?_) | refine zN2 (fun hlen => ?_) | refine zAl (fun _ => ?_) | refine zBf ?_)
    first | refine zR ?_ | refine zQ ?_
    rw [k3 (by rw [d1]; rfl)]; rfl
  cases d2 : decide ((16 : Int) < (ac.size : Int))
  rotate_left
  · repeat (first | refine gG ?_ | refine zN1 (fun hlen => ?_) | refine zN2 (fun hlen => ?_) | refine zAl (fun _ => ?_) | refine zBf ?_)
    first | refine zR ?_ | refine zQ ?_
    rw [k3 (by rw [d1, d2]; rfl)]; rfl
  have j1 : (decide ((ac.size : Int) < 1) || decide ((16 : Int) < (ac.size : Int))) = false := by rw [d1, d2]; rfl
  cases d3 : decide ((6 : Int) < (st.length : Int))
  rotate_left
  · repeat (first | refine gG ?_ | refine zN1 (fun hlen => ?_) | refine zN2 (fun hlen => ?_) | refine zAl (fun _ => ?_) | refine zBf ?_)
    first | refine zR ?_ | refine zQ ?_
    rw [k2 j1 (by rw [d3]; rfl)]; rfl
  cases d4 : decide ((2000 : Int) < (l.length : Int))
  rotate_left
  · repeat (first | refine gG ?_ | refine zN1 (fun hlen => ?_) | refine zN2 (fun hlen => ?_) | refine zAl (fun _ => ?_) | refine zBf ?_)
    first | refine zR ?_ | refine zQ ?_
    rw [k2 j1 (by rw [d3, d4]; rfl)]; rfl
  have kr := kr j1 (by rw [d3, d4]; rfl)
  clear k3 k2 j1
  repeat (first | refine gG ?_ | refine zN1 (fun hlen => ?_) | refine zN2 (fun hlen => ?_) | refine zAl (fun _ => ?_) | refine zBf ?_)
  refine x_loop [2, 4, 5, 34, 35, 36, 37, 38, 39, 40, 41, 42, 43] (fun k : Nat => [(34, .c (.lit (.int .i64 k)))]) (fun _ => []) (fun k => k ≤ st.length ∧ ∀ x ∈ st.take k, V.check x = 0) (fun k => st.length - k) 0 ⟨Nat.zero_le _, by simp⟩ ⟨rfl, trivial⟩ rfl ?_
  rintro k ⟨hk, hz⟩
  repeat (first | refine gG ?_ | refine zN1 (fun hlen => ?_) | refine zN2 (fun hlen => ?_) | refine zAl (fun _ => ?_) | refine zBx (fun _ => ?_))
  refine x_cond rfl (fun h => ?_) (fun h => ?_)
  · have hk' : k < st.length := by simpa using h
    obtain ⟨a, ha⟩ := nth hk'
    have hs := check_af a
    have he := errs_at V.check hz ha
    have hsn := take_snoc (p := fun x => V.check x = 0) ha hz
    repeat (first | refine gG ?_ | refine zN1 (fun hlen => ?_) | refine zN2 (fun hlen => ?_) | refine zAl (fun _ => ?_) | refine zBx (fun _ => ?_))
    refine zIx (k) (hk') ?_
    repeat (first | refine gG ?_ | refine zN1 (fun hlen => ?_) | refine zN2 (fun hlen => ?_) | refine zAl (fun _ => ?_) | refine zBx (fun _ => ?_))
    refine zEl (V.at ha) (V.ts_len a) ?_
    generalize hca : a.check = ca at *
    obtain ⟨ka, na, ta, la⟩ := a
    repeat (first | refine gG ?_ | refine zN1 (fun hlen => ?_) | refine zN2 (fun hlen => ?_) | refine zAl (fun _ => ?_) | refine zBx (fun _ => ?_))
    refine zCall (hs) ?_
    rintro _ rfl
    cases c1 : decide (ca = 0)
    · have c0 : ¬ ca = 0 := of_decide_eq_false c1
      repeat (first | refine gG ?_ | refine zN1 (fun hlen => ?_) | refine zN2 (fun hlen => ?_) | refine zAl (fun _ => ?_) | refine zBx (fun _ => ?_))
      first | refine zR ?_ | refine zQ ?_
      rw [kr, he c0, if_neg c0]; rfl
    · have c0 : ca = 0 := of_decide_eq_true c1
      repeat (first | refine gG ?_ | refine zN1 (fun hlen => ?_) | refine zN2 (fun hlen => ?_) | refine zAl (fun _ => ?_) | refine zBx (fun _ => ?_))
      exact ⟨k + 1, ⟨hk', hsn c0⟩, by omega, x_wkd 0 ⟨rfl, trivial⟩ rfl (by repeat (first | exact ag_refl | refine ag_upd rfl ?_ | refine ag_at rfl rfl ?_))⟩
  · have hk' : k = st.length := by have : ¬ k < st.length := by simpa using h
                                   omega
    subst hk'
    rw [List.take_length] at hz
    rw [errs_all V.check hz, if_pos rfl] at kr
    repeat (first | refine gG ?_ | refine zN1 (fun hlen => ?_) | refine zN2 (fun hlen => ?_) | refine zAl (fun _ => ?_) | refine zBx (fun _ => ?_))
    refine x_loop [2, 7, 8, 47, 48, 49, 50, 51, 52, 53, 54, 55, 56, 57, 58, 59, 60, 61, 62, 63, 64, 65, 66, 67, 68, 69, 70, 71, 72, 73, 74, 75, 76, 77, 78, 79, 80, 81] (fun k : Nat => [(47, .c (.lit (.int .i64 k)))]) (fun _ => []) (fun k => k ≤ l.length ∧ ∀ x ∈ l.take k, Inp.check x = 0) (fun k => l.length - k) 0 ⟨Nat.zero_le _, by simp⟩ ⟨rfl, trivial⟩ rfl ?_
    rintro k ⟨hk, hz⟩
    repeat (first | refine gG ?_ | refine zN1 (fun hlen => ?_) | refine zN2 (fun hlen => ?_) | refine zAl (fun _ => ?_) | refine zBx (fun _ => ?_))
    refine x_cond rfl (fun h => ?_) (fun h => ?_)
    · have hk' : k < l.length := by simpa using h
      obtain ⟨a, ha⟩ := nth hk'
      have hs := check_af a.val
      have hz3 := isZero_af a.val
      have he := errs_at Inp.check hz ha
      have hsn := take_snoc (p := fun x => Inp.check x = 0) ha hz
      have kb := @Inp.check_bad a
      have k3 := @Inp.check_3 a
      have kv := @Inp.check_v a
      repeat (first | refine gG ?_ | refine zN1 (fun hlen => ?_) | refine zN2 (fun hlen => ?_) | refine zAl (fun _ => ?_) | refine zBx (fun _ => ?_))
      refine zIx (k) (hk') ?_
      repeat (first | refine gG ?_ | refine zN1 (fun hlen => ?_) | refine zN2 (fun hlen => ?_) | refine zAl (fun _ => ?_) | refine zBx (fun _ => ?_))
      refine zEl (flat_at Inp.ts 5 Inp.ts_len ha) (Inp.ts_len a) ?_
      obtain ⟨kd, v⟩ := a
      simp only [Inp.bad] at kb k3 kv
      dsimp only at hs hz3 kb k3 kv
      generalize (Inp.mk kd v).check = ca at *
      generalize v.check = cv at *
      generalize v.isZ = zv at *
      obtain ⟨ka, na, ta, la⟩ := v
      cases e1 : decide (kd < 1)
      rotate_left
      · have kb := kb (by rw [e1]; rfl)
        repeat (first | refine gG ?_ | refine zN1 (fun hlen => ?_) | refine zN2 (fun hlen => ?_) | refine zAl (fun _ => ?_) | refine zBx (fun _ => ?_))
        first | refine zR ?_ | refine zQ ?_
        rw [kr, he (by omega), kb]; rfl
      cases e2 : decide ((3 : Int) < kd)
      rotate_left
      · have kb := kb (by rw [e1, e2]; rfl)
        repeat (first | refine gG ?_ | refine zN1 (fun hlen => ?_) | refine zN2 (fun hlen => ?_) | refine zAl (fun _ => ?_) | refine zBx (fun _ => ?_))
        first | refine zR ?_ | refine zQ ?_
        rw [kr, he (by omega), kb]; rfl
      cases e3 : decide (kd = 3)
      · have kv := kv (by rw [e1, e2, e3]; rfl) (of_decide_eq_false e3)
        repeat (first | refine gG ?_ | refine zN1 (fun hlen => ?_) | refine zN2 (fun hlen => ?_) | refine zAl (fun _ => ?_) | refine zBx (fun _ => ?_))
        refine zCall (hs) ?_
        rintro _ rfl
        cases c1 : decide (cv = 0)
        · have c0 : ¬ cv = 0 := of_decide_eq_false c1
          repeat (first | refine gG ?_ | refine zN1 (fun hlen => ?_) | refine zN2 (fun hlen => ?_) | refine zAl (fun _ => ?_) | refine zBx (fun _ => ?_))
          first | refine zR ?_ | refine zQ ?_
          rw [kr, he (by omega), kv]; rfl
        · have c0 : cv = 0 := of_decide_eq_true c1
          repeat (first | refine gG ?_ | refine zN1 (fun hlen => ?_) | refine zN2 (fun hlen => ?_) | refine zAl (fun _ => ?_) | refine zBx (fun _ => ?_))
          exact ⟨k + 1, ⟨hk', hsn (by omega)⟩, by omega, x_wkd 0 ⟨rfl, trivial⟩ rfl (by repeat (first | exact ag_refl | refine ag_upd rfl ?_ | refine ag_at rfl rfl ?_))⟩
      · cases zv
        · have kb := kb (by rw [e1, e2, e3]; rfl)
          repeat (first | refine gG ?_ | refine zN1 (fun hlen => ?_) | refine zN2 (fun hlen => ?_) | refine zAl (fun _ => ?_) | refine zBx (fun _ => ?_))
          refine zCall (hz3) ?_
          rintro _ rfl
          repeat (first | refine gG ?_ | refine zN1 (fun hlen => ?_) | refine zN2 (fun hlen => ?_) | refine zAl (fun _ => ?_) | refine zBx (fun _ => ?_))
          first | refine zR ?_ | refine zQ ?_
          rw [kr, he (by omega), kb]; rfl
        · have k3 := k3 (by rw [e1, e2, e3]; rfl) (of_decide_eq_true e3)
          repeat (first | refine gG ?_ | refine zN1 (fun hlen => ?_) | refine zN2 (fun hlen => ?_) | refine zAl (fun _ => ?_) | refine zBx (fun _ => ?_))
          refine zCall (hz3) ?_
          rintro _ rfl
          repeat (first | refine gG ?_ | refine zN1 (fun hlen => ?_) | refine zN2 (fun hlen => ?_) | refine zAl (fun _ => ?_) | refine zBx (fun _ => ?_))
          exact ⟨k + 1, ⟨hk', hsn (by omega)⟩, by omega, x_wkd 0 ⟨rfl, trivial⟩ rfl (by repeat (first | exact ag_refl | refine ag_upd rfl ?_ | refine ag_at rfl rfl ?_))⟩
    · have hk' : k = l.length := by have : ¬ k < l.length := by simpa using h
                                    omega
      subst hk'
      rw [List.take_length] at hz
      rw [errs_all Inp.check hz] at kr
      repeat (first | refine gG ?_ | refine zN1 (fun hlen => ?_) | refine zN2 (fun hlen => ?_) | refine zAl (fun _ => ?_) | refine zBx (fun _ => ?_))
      first | refine zR ?_ | refine zQ ?_
      rw [kr]; rfl
set_option maxRecDepth 100000 in
set_option maxHeartbeats 2000000 in
theorem listI_ag (f : FuncId) (enc : Inp → List UInt8) (l : List Inp) (hf : ∀ x ∈ l, ∀ (v : Value) (b : List UInt8), b.length + (enc x).length ≤ 1099511627776 → AG Try.prog f [.own 0 v, .c (.agg (Inp.ts x))] [.row v 5 1 b.length (byts b)] (Grew 5 (b ++ enc x)))
    (v : Value) (b : List UInt8) (hn : l.length < 9223372036854775808) (hb : b.length + (uv l.length ++ l.flatMap enc).length ≤ 1099511627776) :
    AG Try.prog 172 [.own 0 v, .c (inpRow l), .fn (.func f) []] [.row v 5 1 b.length (byts b)] (Grew 5 (b ++ (uv l.length ++ l.flatMap enc))) := by
  have hc := nat_ag v b l.length hn (by omega)
  refine ag_enter 1 tok Try.func172 Try.ntmps172 Try.results172 rfl (by kernel_rfl) rfl fun F => ?_
  repeat (first | refine gG ?_ | refine zN1 (fun hlen => ?_) | refine zN2 (fun hlen => ?_) | refine zAl (fun _ => ?_))
  refine zCallG [0] hc ?_
  rintro _ _ ⟨v', rfl, rfl⟩
  refine ⟨.own 0 v', _, re_own, rfl, rfl, ?_⟩
  repeat (first | refine gG ?_ | refine zN1 (fun hlen => ?_) | refine zN2 (fun hlen => ?_) | refine zAl (fun _ => ?_))
  refine x_loop [0, 8, 15, 16, 17, 18, 19, 20, 21, 22, 23] (fun y : Nat × Value => [(15, .c (.lit (.int .i64 (y.1 : Nat)))), (0, .own 0 y.2)]) (fun y => [.row y.2 5 1 (b ++ (uv l.length ++ (l.take y.1).flatMap enc)).length (byts (b ++ (uv l.length ++ (l.take y.1).flatMap enc)))])
    (fun y => y.1 ≤ l.length) (fun y => l.length - y.1) (0, v') (Nat.zero_le _) ⟨rfl, rfl, trivial⟩ (by simp) ?_
  rintro ⟨k, u⟩ hk
  dsimp only at hk ⊢
  repeat (first | refine gG ?_ | refine zN1 (fun hlen => ?_) | refine zN2 (fun hlen => ?_) | refine zAl (fun _ => ?_))
  refine x_cond rfl (fun h => ?_) (fun h => ?_)
  · have hk' : k < l.length := by simpa using h
    obtain ⟨a, ha⟩ := nth hk'
    have hsn := flat_snoc' enc ha
    have hle : ((l.take (k + 1)).flatMap enc).length ≤ (l.flatMap enc).length := by
      have := congrArg (fun r => (List.flatMap enc r).length) (List.take_append_drop (k + 1) l)
      simp only [List.flatMap_append, List.length_append] at this
      omega
    have hca := hf a (List.mem_of_getElem? ha) u (b ++ (uv l.length ++ (l.take k).flatMap enc)) (by
      rw [hsn] at hle
      simp only [List.length_append] at hle hb ⊢
      omega)
    repeat (first | refine gG ?_ | refine zN1 (fun hlen => ?_) | refine zN2 (fun hlen => ?_) | refine zAl (fun _ => ?_))
    refine zIx (k) (hk') ?_
    repeat (first | refine gG ?_ | refine zN1 (fun hlen => ?_) | refine zN2 (fun hlen => ?_) | refine zAl (fun _ => ?_))
    refine zEl (flat_at Inp.ts 5 Inp.ts_len ha) (Inp.ts_len a) ?_
    obtain ⟨kd, ⟨ka, na, ta, la⟩⟩ := a
    repeat (first | refine gG ?_ | refine zN1 (fun hlen => ?_) | refine zN2 (fun hlen => ?_) | refine zAl (fun _ => ?_))
    refine zCallG [0] hca ?_
    rintro _ _ ⟨u', rfl, rfl⟩
    refine ⟨.own 0 u', _, re_own, rfl, rfl, ?_⟩
    repeat (first | refine gG ?_ | refine zN1 (fun hlen => ?_) | refine zN2 (fun hlen => ?_) | refine zAl (fun _ => ?_))
    exact ⟨(k + 1, u'), hk', by simp only; omega, x_wkd 1 ⟨rfl, rfl, trivial⟩ (by simp only [hsn, List.append_assoc]; rfl) (by repeat (first | exact ag_refl | refine ag_upd rfl ?_ | refine ag_at rfl rfl ?_))⟩
  · have hk' : k = l.length := by have : ¬ k < l.length := by simpa using h
                                  omega
    subst hk'
    repeat (first | refine gG ?_ | refine zN1 (fun hlen => ?_) | refine zN2 (fun hlen => ?_) | refine zAl (fun _ => ?_))
    refine zG ?_
    refine ⟨_, rfl, ?_⟩
    rw [List.take_length]
set_option maxRecDepth 100000 in
set_option maxHeartbeats 4000000 in
theorem appendInput_ag (x : Inp) (hok : x.val.ok) (v : Value) (b : List UInt8) (hb : b.length + x.bytes.length ≤ 1099511627776) :
    AG Try.prog 173 [.own 0 v, .c (.agg x.ts)] [.row v 5 1 b.length (byts b)] (Grew 5 (b ++ x.bytes)) := by
  obtain ⟨k, y⟩ := x
  simp only [Inp.bytes] at hb ⊢
  by_cases hk : k = 3
  · rw [if_pos hk] at hb ⊢
    have d1 : decide (k = 3) = true := decide_eq_true hk
    obtain ⟨ky, ny, ty, ly⟩ := y
    refine ag_enter 1 tok Try.func173 Try.ntmps173 Try.results173 rfl (by kernel_rfl) rfl fun F => ?_
    repeat (first | refine gX ?_ | refine zBf ?_ | refine zAp (fun _ => ?_))
    refine lo_conv tok rfl rfl rfl rfl rfl ?_
    repeat (first | refine gG ?_ | refine zBf ?_ | refine zAp (fun _ => ?_))
    refine zG ?_
    exact ⟨_, rfl, by rw [byts_app, List.length_append, ← kb_T]; rfl⟩
  · rw [if_neg hk] at hb ⊢
    simp only [List.length_cons] at hb
    have d1 : decide (k = 3) = false := decide_eq_false hk
    have hi1 : ∀ v1, AG Try.prog 74 [.own 0 v1, .c y.t] [.row v1 5 1 (b.length + 1) (byts b ++ [.lit (.int .u8 (IntKind.u8.wrap k))])] (Grew 5 (b ++ (kb k :: y.bytes))) := by
      intro v1
      have h := appendValue_ag y hok v1 (b ++ [kb k]) (by simp only [List.length_append, List.length_cons, List.length_nil]; omega)
      rw [← kb_T]
      simpa [byts] using h
    generalize y.bytes = yb at *
    obtain ⟨ky, ny, ty, ly⟩ := y
    refine ag_enter 1 tok Try.func173 Try.ntmps173 Try.results173 rfl (by kernel_rfl) rfl fun F => ?_
    repeat (first | refine gX ?_ | refine zBf ?_ | refine zAp (fun _ => ?_))
    refine lo_conv tok rfl rfl rfl rfl rfl ?_
    repeat (first | refine gG ?_ | refine zBf ?_ | refine zAp (fun _ => ?_))
    refine zCallG [0] (hi1 _) ?_
    rintro _ _ ⟨v', rfl, rfl⟩
    refine ⟨.own 0 v', _, re_own, rfl, rfl, ?_⟩
    repeat (first | refine gG ?_ | refine zBx (fun _ => ?_) | refine zAp (fun _ => ?_))
    refine zG ?_
    exact ⟨_, rfl, rfl⟩
theorem Inp.bytes_le {x : Inp} (h : x.val.tiny) : x.bytes.length ≤ 34000001 := by
  have := h.2.2
  unfold Inp.bytes
  split <;> simp only [List.length_cons, List.length_nil] <;> omega
theorem flat_le {α : Type} (f : α → List UInt8) (B : Nat) : ∀ {l : List α}, (∀ x ∈ l, (f x).length ≤ B) → (l.flatMap f).length ≤ l.length * B
  | [], _ => by simp
  | a :: l, h => by
    have h1 := h a (by simp)
    have h2 := flat_le f B (l := l) fun x hx => h x (List.mem_cons_of_mem _ hx)
    simp only [List.flatMap_cons, List.length_append, List.length_cons, Nat.succ_mul]
    omega
theorem Sav.bytes_le {s : Sav} (hs : s.Small) (h : s.Right) : s.bytes.length ≤ 68300000000 := by
  have h1 := flat_le V.bytes 34000000 (l := s.state) fun v hv => (hs.state v hv).2.2
  have h2 := flat_le Inp.bytes 34000001 (l := s.inputs) fun x hx => Inp.bytes_le (hs.inp x hx)
  have h3 := h.actor
  have h4 := h.states
  have h5 := h.inps
  have u1 := uv_len64 (n := s.actor.size) (by omega)
  have u2 := uv_len64 (n := s.state.length) (by omega)
  have u3 := uv_len64 (n := s.inputs.length) (by omega)
  have h6 : s.state.length * 34000000 ≤ 6 * 34000000 := Nat.mul_le_mul_right _ h4
  have h7 : s.inputs.length * 34000001 ≤ 2000 * 34000001 := Nat.mul_le_mul_right _ h5
  simp only [Sav.bytes, List.length_append, sz_len]
  omega
set_option maxRecDepth 100000 in
set_option maxHeartbeats 4000000 in
theorem appendSaved_ag (s : Sav) (hst : ∀ v ∈ s.state, v.ok) (hin : ∀ x ∈ s.inputs, x.val.ok) (h1 : s.state.length ≤ 6) (h2 : s.inputs.length ≤ 2000) (v : Value) (b : List UInt8) (hb : b.length + s.bytes.length ≤ 1099511627776) :
    AG Try.prog 98 [.own 0 v, .c s.t] [.row v 5 1 b.length (byts b)] (Grew 5 (b ++ s.bytes)) := by
  obtain ⟨ac, st, l⟩ := s
  dsimp only at hst hin h1 h2
  have e0 : (Sav.mk ac st l).bytes = uv ac.size ++ (ac.data.toList ++ (uv st.length ++ (st.flatMap V.bytes ++ (uv l.length ++ l.flatMap Inp.bytes)))) := rfl
  rw [e0] at hb ⊢
  simp only [List.length_append, sz_len] at hb
  have c1 := text_ag v b ac (by omega)
  have c2 := fun v2 => listV_ag 74 V.bytes st (fun x hx v b hb => appendValue_ag x (hst x hx) v b hb) v2 (b ++ (uv ac.size ++ ac.data.toList)) (by omega) (by simp only [List.length_append, sz_len]; omega)
  have c3 := fun v3 => listI_ag 173 Inp.bytes l (fun x hx v b hb => appendInput_ag x (hin x hx) v b hb) v3 (b ++ (uv ac.size ++ ac.data.toList) ++ (uv st.length ++ st.flatMap V.bytes)) (by omega) (by simp only [List.length_append, sz_len]; omega)
  refine ag_enter 1 tok Try.func98 Try.ntmps98 Try.results98 rfl (by kernel_rfl) rfl fun F => ?_
  repeat (first | refine gG ?_ | refine zBf ?_)
  refine ac_draw [0, 0, 0, 2, 0, 0, 2, 0, 0, 2, 1] [0, 1, 2, 4, 5, 7, 8, 3, 6, 9, 10] (by kernel_rfl) (by kernel_rfl) ?_
  refine gW ?_
  apply w_l; (focus exact rfl); (focus exact rfl); (refine zCallG [0] c1 ?_; rintro _ _ ⟨v', rfl, rfl⟩; refine ⟨.own 0 v', _, re_own, rfl, rfl, ?_⟩)
  apply w_l; (focus exact rfl); (focus exact rfl); (refine zCallG [0] (c2 _) ?_; rintro _ _ ⟨v', rfl, rfl⟩; refine ⟨.own 0 v', _, re_own, rfl, rfl, ?_⟩)
  apply w_l; (focus exact rfl); (focus exact rfl); (refine zCallG [0] (c3 _) ?_; rintro _ _ ⟨v', rfl, rfl⟩; refine ⟨.own 0 v', _, re_own, rfl, rfl, ?_⟩)
  refine gW ?_
  refine w_nil ?_
  repeat (first | refine gG ?_ | refine zBx (fun _ => ?_))
  refine zG ?_
  exact ⟨_, rfl, by simp only [List.append_assoc]⟩
end Go.Proofs.Ythgackidonocpaa
namespace Go.Proofs.Ythgackidonocpaa
open Go.RowKit
theorem size_lt1 (s : ByteArray) : decide (s = ⟨#[]⟩) = decide ((s.size : Int) < 1) := by
  by_cases h : s = ⟨#[]⟩
  · subst h; rfl
  · rw [decide_eq_false h, decide_eq_false]
    intro h1
    apply h
    have h2 : s.size = 0 := by omega
    obtain ⟨⟨l⟩⟩ := s
    have h3 : l.length = 0 := h2
    rw [List.eq_nil_of_length_eq_zero h3]
set_option maxRecDepth 100000 in
set_option maxHeartbeats 4000000 in
theorem savedFault_af (s : Sav) (hst : ∀ v ∈ s.state, v.size ≤ 1048576) (hin : ∀ x ∈ s.inputs, x.val.size ≤ 1048576) : AF Try.prog 37 [s.t] (· = .lit (.int .i64 s.check)) := by
  have k3 := @Sav.check_3 s
  have k2 := @Sav.check_2 s
  have kr := @Sav.check_r s
  obtain ⟨ac, st, l⟩ := s
  dsimp only at k3 k2 kr hst hin
  generalize hck : (Sav.mk ac st l).check = ck at *
  refine af_enter tok Try.func37 Try.ntmps37 Try.results37 rfl (by kernel_rfl) rfl rfl fun F hX => ?_
  have e0 : decide (ac = ⟨#[]⟩) = decide ((ac.size : Int) < 1) := size_lt1 ac
  cases d1 : decide ((ac.size : Int) < 1) <;> rw [d1] at e0
  rotate_left
  · repeat (first | refine gG ?_ | refine zN1 (fun hlen => ?_) | refine zN2 (fun hlen => ?_) | refine zAl (fun _ => ?_) | refine zBf ?_)
    first | refine zR ?_ | refine zQ ?_
    rw [k3 (by rw [d1]; rfl)]; rfl
  cases d2 : decide ((16 : Int) < (ac.size : Int))
  rotate_left
  · repeat (first | refine gG ?_ | refine zN1 (fun hlen => ?_) | refine zN2 (fun hlen => ?_) | refine zAl (fun _ => ?_) | refine zBf ?_)
    first | refine zR ?_ | refine zQ ?_
    rw [k3 (by rw [d1, d2]; rfl)]; rfl
  have j1 : (decide ((ac.size : Int) < 1) || decide ((16 : Int) < (ac.size : Int))) = false := by rw [d1, d2]; rfl
  cases d3 : decide ((6 : Int) < (st.length : Int))
  rotate_left
  · repeat (first | refine gG ?_ | refine zN1 (fun hlen => ?_) | refine zN2 (fun hlen => ?_) | refine zAl (fun _ => ?_) | refine zBf ?_)
    first | refine zR ?_ | refine zQ ?_
    rw [k2 j1 (by rw [d3]; rfl)]; rfl
  cases d4 : decide ((2000 : Int) < (l.length : Int))
  rotate_left
  · repeat (first | refine gG ?_ | refine zN1 (fun hlen => ?_) | refine zN2 (fun hlen => ?_) | refine zAl (fun _ => ?_) | refine zBf ?_)
    first | refine zR ?_ | refine zQ ?_
    rw [k2 j1 (by rw [d3, d4]; rfl)]; rfl
  have kr := kr j1 (by rw [d3, d4]; rfl)
  clear k3 k2 j1
  repeat (first | refine gG ?_ | refine zN1 (fun hlen => ?_) | refine zN2 (fun hlen => ?_) | refine zAl (fun _ => ?_) | refine zBf ?_)
  refine x_loop [2, 4, 5, 31, 32, 33, 34, 35, 36, 37, 38, 39, 40] (fun k : Nat => [(31, .c (.lit (.int .i64 k)))]) (fun _ => []) (fun k => k ≤ st.length ∧ ∀ x ∈ st.take k, V.check x = 0) (fun k => st.length - k) 0 ⟨Nat.zero_le _, by simp⟩ ⟨rfl, trivial⟩ rfl ?_
  rintro k ⟨hk, hz⟩
  repeat (first | refine gG ?_ | refine zN1 (fun hlen => ?_) | refine zN2 (fun hlen => ?_) | refine zAl (fun _ => ?_) | refine zBx (fun _ => ?_))
  refine x_cond rfl (fun h => ?_) (fun h => ?_)
  · have hk' : k < st.length := by simpa using h
    obtain ⟨a, ha⟩ := nth hk'
    have hs := valueFault_af a (hst a (List.mem_of_getElem? ha))
    have he := errs_at V.check hz ha
    have hsn := take_snoc (p := fun x => V.check x = 0) ha hz
    repeat (first | refine gG ?_ | refine zN1 (fun hlen => ?_) | refine zN2 (fun hlen => ?_) | refine zAl (fun _ => ?_) | refine zBx (fun _ => ?_))
    refine zIx (k) (hk') ?_
    repeat (first | refine gG ?_ | refine zN1 (fun hlen => ?_) | refine zN2 (fun hlen => ?_) | refine zAl (fun _ => ?_) | refine zBx (fun _ => ?_))
    refine zEl (V.at ha) (V.ts_len a) ?_
    generalize hca : a.check = ca at *
    obtain ⟨ka, na, ta, la⟩ := a
    repeat (first | refine gG ?_ | refine zN1 (fun hlen => ?_) | refine zN2 (fun hlen => ?_) | refine zAl (fun _ => ?_) | refine zBx (fun _ => ?_))
    refine zCall (hs) ?_
    rintro _ rfl
    cases c1 : decide (ca = 0)
    · have c0 : ¬ ca = 0 := of_decide_eq_false c1
      repeat (first | refine gG ?_ | refine zN1 (fun hlen => ?_) | refine zN2 (fun hlen => ?_) | refine zAl (fun _ => ?_) | refine zBx (fun _ => ?_))
      first | refine zR ?_ | refine zQ ?_
      rw [kr, he c0, if_neg c0]; rfl
    · have c0 : ca = 0 := of_decide_eq_true c1
      repeat (first | refine gG ?_ | refine zN1 (fun hlen => ?_) | refine zN2 (fun hlen => ?_) | refine zAl (fun _ => ?_) | refine zBx (fun _ => ?_))
      exact ⟨k + 1, ⟨hk', hsn c0⟩, by omega, x_wkd 0 ⟨rfl, trivial⟩ rfl (by repeat (first | exact ag_refl | refine ag_upd rfl ?_ | refine ag_at rfl rfl ?_))⟩
  · have hk' : k = st.length := by have : ¬ k < st.length := by simpa using h
                                   omega
    subst hk'
    rw [List.take_length] at hz
    rw [errs_all V.check hz, if_pos rfl] at kr
    repeat (first | refine gG ?_ | refine zN1 (fun hlen => ?_) | refine zN2 (fun hlen => ?_) | refine zAl (fun _ => ?_) | refine zBx (fun _ => ?_))
    refine x_loop [2, 7, 8, 44, 45, 46, 47, 48, 49, 50, 51, 52, 53, 54, 55, 56, 57, 58, 59, 60, 61, 62, 63, 64, 65, 66, 67, 68, 69, 70, 71, 72, 73, 74, 75, 76] (fun k : Nat => [(44, .c (.lit (.int .i64 k)))]) (fun _ => []) (fun k => k ≤ l.length ∧ ∀ x ∈ l.take k, Inp.check x = 0) (fun k => l.length - k) 0 ⟨Nat.zero_le _, by simp⟩ ⟨rfl, trivial⟩ rfl ?_
    rintro k ⟨hk, hz⟩
    repeat (first | refine gG ?_ | refine zN1 (fun hlen => ?_) | refine zN2 (fun hlen => ?_) | refine zAl (fun _ => ?_) | refine zBx (fun _ => ?_))
    refine x_cond rfl (fun h => ?_) (fun h => ?_)
    · have hk' : k < l.length := by simpa using h
      obtain ⟨a, ha⟩ := nth hk'
      have hs := valueFault_af a.val (hin a (List.mem_of_getElem? ha))
      have hz3 := none_af a.val
      have he := errs_at Inp.check hz ha
      have hsn := take_snoc (p := fun x => Inp.check x = 0) ha hz
      have kb := @Inp.check_bad a
      have k3 := @Inp.check_3 a
      have kv := @Inp.check_v a
      repeat (first | refine gG ?_ | refine zN1 (fun hlen => ?_) | refine zN2 (fun hlen => ?_) | refine zAl (fun _ => ?_) | refine zBx (fun _ => ?_))
      refine zIx (k) (hk') ?_
      repeat (first | refine gG ?_ | refine zN1 (fun hlen => ?_) | refine zN2 (fun hlen => ?_) | refine zAl (fun _ => ?_) | refine zBx (fun _ => ?_))
      refine zEl (flat_at Inp.ts 5 Inp.ts_len ha) (Inp.ts_len a) ?_
      obtain ⟨kd, v⟩ := a
      simp only [Inp.bad] at kb k3 kv
      dsimp only at hs hz3 kb k3 kv
      generalize (Inp.mk kd v).check = ca at *
      generalize v.check = cv at *
      generalize v.isZ = zv at *
      obtain ⟨ka, na, ta, la⟩ := v
      cases e1 : decide (kd < 1)
      rotate_left
      · have kb := kb (by rw [e1]; rfl)
        repeat (first | refine gG ?_ | refine zN1 (fun hlen => ?_) | refine zN2 (fun hlen => ?_) | refine zAl (fun _ => ?_) | refine zBx (fun _ => ?_))
        first | refine zR ?_ | refine zQ ?_
        rw [kr, he (by omega), kb]; rfl
      cases e2 : decide ((3 : Int) < kd)
      rotate_left
      · have kb := kb (by rw [e1, e2]; rfl)
        repeat (first | refine gG ?_ | refine zN1 (fun hlen => ?_) | refine zN2 (fun hlen => ?_) | refine zAl (fun _ => ?_) | refine zBx (fun _ => ?_))
        first | refine zR ?_ | refine zQ ?_
        rw [kr, he (by omega), kb]; rfl
      cases e3 : decide (kd = 3)
      · have e4 : decide (kd < 3) = true := decide_eq_true (by have := of_decide_eq_false e2; have := of_decide_eq_false e3; omega)
        have kv := kv (by rw [e1, e2, e3]; rfl) (of_decide_eq_false e3)
        repeat (first | refine gG ?_ | refine zN1 (fun hlen => ?_) | refine zN2 (fun hlen => ?_) | refine zAl (fun _ => ?_) | refine zBx (fun _ => ?_))
        refine zCall (hs) ?_
        rintro _ rfl
        cases c1 : decide (cv = 0)
        · have c0 : ¬ cv = 0 := of_decide_eq_false c1
          repeat (first | refine gG ?_ | refine zN1 (fun hlen => ?_) | refine zN2 (fun hlen => ?_) | refine zAl (fun _ => ?_) | refine zBx (fun _ => ?_))
          first | refine zR ?_ | refine zQ ?_
          rw [kr, he (by omega), kv]; rfl
        · have c0 : cv = 0 := of_decide_eq_true c1
          repeat (first | refine gG ?_ | refine zN1 (fun hlen => ?_) | refine zN2 (fun hlen => ?_) | refine zAl (fun _ => ?_) | refine zBx (fun _ => ?_))
          exact ⟨k + 1, ⟨hk', hsn (by omega)⟩, by omega, x_wkd 0 ⟨rfl, trivial⟩ rfl (by repeat (first | exact ag_refl | refine ag_upd rfl ?_ | refine ag_at rfl rfl ?_))⟩
      · have e4 : decide (kd < 3) = false := decide_eq_false (by have := of_decide_eq_true e3; omega)
        cases zv
        · have kb := kb (by rw [e1, e2, e3]; rfl)
          repeat (first | refine gG ?_ | refine zN1 (fun hlen => ?_) | refine zN2 (fun hlen => ?_) | refine zAl (fun _ => ?_) | refine zBx (fun _ => ?_))
          refine zCall (hz3) ?_
          rintro _ rfl
          repeat (first | refine gG ?_ | refine zN1 (fun hlen => ?_) | refine zN2 (fun hlen => ?_) | refine zAl (fun _ => ?_) | refine zBx (fun _ => ?_))
          first | refine zR ?_ | refine zQ ?_
          rw [kr, he (by omega), kb]; rfl
        · have k3 := k3 (by rw [e1, e2, e3]; rfl) (of_decide_eq_true e3)
          repeat (first | refine gG ?_ | refine zN1 (fun hlen => ?_) | refine zN2 (fun hlen => ?_) | refine zAl (fun _ => ?_) | refine zBx (fun _ => ?_))
          refine zCall (hz3) ?_
          rintro _ rfl
          repeat (first | refine gG ?_ | refine zN1 (fun hlen => ?_) | refine zN2 (fun hlen => ?_) | refine zAl (fun _ => ?_) | refine zBx (fun _ => ?_))
          exact ⟨k + 1, ⟨hk', hsn (by omega)⟩, by omega, x_wkd 0 ⟨rfl, trivial⟩ rfl (by repeat (first | exact ag_refl | refine ag_upd rfl ?_ | refine ag_at rfl rfl ?_))⟩
    · have hk' : k = l.length := by have : ¬ k < l.length := by simpa using h
                                    omega
      subst hk'
      rw [List.take_length] at hz
      rw [errs_all Inp.check hz] at kr
      repeat (first | refine gG ?_ | refine zN1 (fun hlen => ?_) | refine zN2 (fun hlen => ?_) | refine zAl (fun _ => ?_) | refine zBx (fun _ => ?_))
      first | refine zR ?_ | refine zQ ?_
      rw [kr]; rfl
theorem flat_take_le {α : Type} (f : α → List UInt8) (l : List α) (k : Nat) : ((l.take k).flatMap f).length ≤ (l.flatMap f).length := by
  have := congrArg (fun r => (List.flatMap f r).length) (List.take_append_drop k l)
  simp only [List.flatMap_append, List.length_append] at this
  omega
set_option maxRecDepth 100000 in
set_option maxHeartbeats 4000000 in
theorem savedText_af (s : Sav) (hst : ∀ v ∈ s.state, v.ok) (hin : ∀ x ∈ s.inputs, x.val.ok ∧ x.kind ≤ 3) (h1 : s.state.length ≤ 6) (h2 : s.inputs.length ≤ 2000) (hb : s.bytes.length ≤ 1099511627776) : AF Try.prog 99 [s.t] (· = .lit (.string (bs s.bytes))) := by
  obtain ⟨ac, st, l⟩ := s
  dsimp only at hst hin h1 h2
  have e0 : (Sav.mk ac st l).bytes = uv ac.size ++ (ac.data.toList ++ (uv st.length ++ (st.flatMap V.bytes ++ (uv l.length ++ l.flatMap Inp.bytes)))) := rfl
  rw [e0] at hb ⊢
  simp only [List.length_append, sz_len] at hb
  have c1 := rnat_af ac.size (by omega)
  have c2 := rnat_af st.length (by omega)
  have c3 := rnat_af l.length (by omega)
  have w1 : IntKind.u64.wrap (ac.size : Int) = (ac.size : Int) := by rw [wrap_u64]; omega
  have w2 : IntKind.u64.wrap (st.length : Int) = (st.length : Int) := by rw [wrap_u64]; omega
  have w3 : IntKind.u64.wrap (l.length : Int) = (l.length : Int) := by rw [wrap_u64]; omega
  refine af_enter tok Try.func99 Try.ntmps99 Try.results99 rfl (by kernel_rfl) rfl rfl fun F hX => ?_
  repeat (first | refine gG ?_ | refine zN1 (fun hlen => ?_) | refine zN2 (fun hlen => ?_) | refine zAl (fun _ => ?_) | refine zBf ?_)
  refine ac_draw [1, 1, 1, 1, 1, 1, 1, 1, 1, 1, 1, 1, 1, 1, 1] [0, 1, 2, 3, 4, 5, 6, 7, 8, 9, 10, 11, 12, 13, 14] (by kernel_rfl) (by kernel_rfl) ?_
  refine gW ?_
  apply w_q; (focus exact rfl); (focus exact rfl); focus (intro _; (refine lo_conv tok rfl rfl rfl rfl w1 ?_); exact det_refl)
  apply w_q; (focus exact rfl); (focus exact rfl); focus (intro _; (refine lo_call c1 rfl (by repeat (first | exact rzs_nil | apply rzs_cons | exact rz_c | exact rz_nil rfl | apply rz_agg | exact rz_own rfl | apply rz_fn | exact rz_ptr rfl | apply rz_tup)) ?_; rintro _ rfl); exact det_refl)
  refine gW ?_
  apply w_q; (focus exact rfl); (focus exact rfl); focus (intro _; (refine zCatb (uv ac.size) ac.data.toList (by simp only [List.length_append, List.length_cons, List.length_nil, sz_len]; omega) ?_); exact det_refl)
  refine gW ?_
  apply w_q; (focus exact rfl); (focus exact rfl); focus (intro _; (refine lo_conv tok rfl rfl rfl rfl w2 ?_); exact det_refl)
  apply w_q; (focus exact rfl); (focus exact rfl); focus (intro _; (refine lo_call c2 rfl (by repeat (first | exact rzs_nil | apply rzs_cons | exact rz_c | exact rz_nil rfl | apply rz_agg | exact rz_own rfl | apply rz_fn | exact rz_ptr rfl | apply rz_tup)) ?_; rintro _ rfl); exact det_refl)
  apply w_q; (focus exact rfl); (focus exact rfl); focus (intro _; (refine zCatb (uv ac.size ++ ac.data.toList) (uv st.length) (by simp only [List.length_append, List.length_cons, List.length_nil, sz_len]; omega) ?_); exact det_refl)
  refine gW ?_
  refine w_nil ?_
  repeat (first | refine gG ?_ | refine zN1 (fun hlen => ?_) | refine zN2 (fun hlen => ?_) | refine zAl (fun _ => ?_) | refine zBx (fun _ => ?_))
  refine x_loop [3, 5, 25, 26, 27, 28, 29, 30, 31, 32, 33] (fun y : Nat => [(25, .c (.lit (.int .i64 (y : Nat)))), (3, .c (.lit (.string (bs (uv ac.size ++ ac.data.toList ++ uv st.length ++ (st.take y).flatMap V.bytes)))))]) (fun _ => []) (fun y => y ≤ st.length) (fun y => st.length - y) 0 (Nat.zero_le _) ⟨rfl, by simp; rfl, trivial⟩ rfl ?_
  intro i hi
  repeat (first | refine gG ?_ | refine zN1 (fun hlen => ?_) | refine zN2 (fun hlen => ?_) | refine zAl (fun _ => ?_) | refine zBx (fun _ => ?_))
  refine x_cond rfl (fun h => ?_) (fun h => ?_)
  · have hi' : i < st.length := by simpa using h
    obtain ⟨a, hla⟩ := nth hi'
    have hsn := flat_snoc' V.bytes hla
    have hle := flat_take_le V.bytes st (i + 1)
    rw [hsn, List.length_append] at hle
    have hc := valueText_af a (hst a (List.mem_of_getElem? hla)) (by omega)
    repeat (first | refine gG ?_ | refine zN1 (fun hlen => ?_) | refine zN2 (fun hlen => ?_) | refine zAl (fun _ => ?_) | refine zBx (fun _ => ?_))
    refine zIx (i) (hi') ?_
    repeat (first | refine gG ?_ | refine zN1 (fun hlen => ?_) | refine zN2 (fun hlen => ?_) | refine zAl (fun _ => ?_) | refine zBx (fun _ => ?_))
    refine zEl (V.at hla) (V.ts_len a) ?_
    obtain ⟨ka, na, ta, la⟩ := a
    repeat (first | refine gG ?_ | refine zN1 (fun hlen => ?_) | refine zN2 (fun hlen => ?_) | refine zAl (fun _ => ?_) | refine zBx (fun _ => ?_))
    refine zCall (hc) ?_
    rintro _ rfl
    repeat (first | refine gG ?_ | refine zN1 (fun hlen => ?_) | refine zN2 (fun hlen => ?_) | refine zAl (fun _ => ?_) | refine zBx (fun _ => ?_))
    refine zCatb (uv ac.size ++ ac.data.toList ++ uv st.length ++ (st.take i).flatMap V.bytes) (V.mk ka na ta la).bytes (by simp only [List.length_append, List.length_cons, List.length_nil, sz_len]; omega) ?_
    repeat (first | refine gG ?_ | refine zN1 (fun hlen => ?_) | refine zN2 (fun hlen => ?_) | refine zAl (fun _ => ?_) | refine zBx (fun _ => ?_))
    exact ⟨i + 1, hi', by omega, x_wkd 0 ⟨rfl, by simp only [hsn, List.append_assoc]; rfl, trivial⟩ rfl (by repeat (first | exact ag_refl | refine ag_upd rfl ?_ | refine ag_at rfl rfl ?_))⟩
  · have hi' : i = st.length := by have : ¬ i < st.length := by simpa using h
                                   omega
    subst hi'
    rw [List.take_length]
    repeat (first | refine gG ?_ | refine zN1 (fun hlen => ?_) | refine zN2 (fun hlen => ?_) | refine zAl (fun _ => ?_) | refine zBx (fun _ => ?_))
    refine lo_conv tok rfl rfl rfl rfl w3 ?_
    repeat (first | refine gG ?_ | refine zN1 (fun hlen => ?_) | refine zN2 (fun hlen => ?_) | refine zAl (fun _ => ?_) | refine zBx (fun _ => ?_))
    refine zCall (c3) ?_
    rintro _ rfl
    repeat (first | refine gG ?_ | refine zN1 (fun hlen => ?_) | refine zN2 (fun hlen => ?_) | refine zAl (fun _ => ?_) | refine zBx (fun _ => ?_))
    refine zCatb (uv ac.size ++ ac.data.toList ++ uv st.length ++ st.flatMap V.bytes) (uv l.length) (by simp only [List.length_append, List.length_cons, List.length_nil, sz_len]; omega) ?_
    repeat (first | refine gG ?_ | refine zN1 (fun hlen => ?_) | refine zN2 (fun hlen => ?_) | refine zAl (fun _ => ?_) | refine zBx (fun _ => ?_))
    refine x_loop [3, 7, 44, 45, 46, 47, 48, 49, 50, 51, 52, 53, 54, 55, 56, 57, 58, 59, 60, 61, 62, 63] (fun y : Nat => [(44, .c (.lit (.int .i64 (y : Nat)))), (3, .c (.lit (.string (bs (uv ac.size ++ ac.data.toList ++ uv st.length ++ st.flatMap V.bytes ++ uv l.length ++ (l.take y).flatMap Inp.bytes)))))]) (fun _ => []) (fun y => y ≤ l.length) (fun y => l.length - y) 0 (Nat.zero_le _) ⟨rfl, by simp; rfl, trivial⟩ rfl ?_
    intro i hi
    repeat (first | refine gG ?_ | refine zN1 (fun hlen => ?_) | refine zN2 (fun hlen => ?_) | refine zAl (fun _ => ?_) | refine zBx (fun _ => ?_))
    refine x_cond rfl (fun h => ?_) (fun h => ?_)
    · have hi' : i < l.length := by simpa using h
      obtain ⟨a, hla⟩ := nth hi'
      have hsn := flat_snoc' Inp.bytes hla
      have hle := flat_take_le Inp.bytes l (i + 1)
      rw [hsn, List.length_append] at hle
      have hok := hin a (List.mem_of_getElem? hla)
      repeat (first | refine gG ?_ | refine zN1 (fun hlen => ?_) | refine zN2 (fun hlen => ?_) | refine zAl (fun _ => ?_) | refine zBx (fun _ => ?_))
      refine zIx (i) (hi') ?_
      repeat (first | refine gG ?_ | refine zN1 (fun hlen => ?_) | refine zN2 (fun hlen => ?_) | refine zAl (fun _ => ?_) | refine zBx (fun _ => ?_))
      refine zEl (flat_at Inp.ts 5 Inp.ts_len hla) (Inp.ts_len a) ?_
      obtain ⟨kd, v⟩ := a
      by_cases hk : kd = 3
      · have d1 : decide (kd < 3) = false := decide_eq_false (by omega)
        have hbb : (Inp.mk kd v).bytes = [kb kd] := by simp only [Inp.bytes]; rw [if_pos hk]
        rw [hbb] at hsn hle
        simp only [List.length_cons, List.length_nil] at hle
        obtain ⟨ka, na, ta, la⟩ := v
        repeat (first | refine gX ?_ | refine zN1 (fun hlen => ?_) | refine zN2 (fun hlen => ?_) | refine zAl (fun _ => ?_) | refine zBx (fun _ => ?_))
        refine lo_conv tok rfl rfl rfl rfl rfl ?_
        repeat (first | refine gG ?_ | refine zN1 (fun hlen => ?_) | refine zN2 (fun hlen => ?_) | refine zAl (fun _ => ?_) | refine zBx (fun _ => ?_))
        refine zStr [kb kd] (one_kb kd) rfl ?_
        repeat (first | refine gG ?_ | refine zN1 (fun hlen => ?_) | refine zN2 (fun hlen => ?_) | refine zAl (fun _ => ?_) | refine zBx (fun _ => ?_))
        refine zCatb (uv ac.size ++ ac.data.toList ++ uv st.length ++ st.flatMap V.bytes ++ uv l.length ++ (l.take i).flatMap Inp.bytes) [kb kd] (by simp only [List.length_append, List.length_cons, List.length_nil, sz_len]; omega) ?_
        repeat (first | refine gG ?_ | refine zN1 (fun hlen => ?_) | refine zN2 (fun hlen => ?_) | refine zAl (fun _ => ?_) | refine zBx (fun _ => ?_))
        exact ⟨i + 1, hi', by omega, x_wkd 0 ⟨rfl, by simp only [hsn, List.append_assoc]; rfl, trivial⟩ rfl (by repeat (first | exact ag_refl | refine ag_upd rfl ?_ | refine ag_at rfl rfl ?_))⟩
      · have d1 : decide (kd < 3) = true := decide_eq_true (by have := hok.2; simp only at this; omega)
        have hbb : (Inp.mk kd v).bytes = kb kd :: v.bytes := by simp only [Inp.bytes]; rw [if_neg hk]
        rw [hbb] at hsn hle
        simp only [List.length_cons, List.length_nil] at hle
        have hc := valueText_af v hok.1 (by omega)
        generalize v.bytes = vb at *
        obtain ⟨ka, na, ta, la⟩ := v
        repeat (first | refine gX ?_ | refine zN1 (fun hlen => ?_) | refine zN2 (fun hlen => ?_) | refine zAl (fun _ => ?_) | refine zBx (fun _ => ?_))
        refine lo_conv tok rfl rfl rfl rfl rfl ?_
        repeat (first | refine gG ?_ | refine zN1 (fun hlen => ?_) | refine zN2 (fun hlen => ?_) | refine zAl (fun _ => ?_) | refine zBx (fun _ => ?_))
        refine zStr [kb kd] (one_kb kd) rfl ?_
        repeat (first | refine gG ?_ | refine zN1 (fun hlen => ?_) | refine zN2 (fun hlen => ?_) | refine zAl (fun _ => ?_) | refine zBx (fun _ => ?_))
        refine zCatb (uv ac.size ++ ac.data.toList ++ uv st.length ++ st.flatMap V.bytes ++ uv l.length ++ (l.take i).flatMap Inp.bytes) [kb kd] (by simp only [List.length_append, List.length_cons, List.length_nil, sz_len]; omega) ?_
        repeat (first | refine gG ?_ | refine zN1 (fun hlen => ?_) | refine zN2 (fun hlen => ?_) | refine zAl (fun _ => ?_) | refine zBx (fun _ => ?_))
        refine zCall (hc) ?_
        rintro _ rfl
        repeat (first | refine gG ?_ | refine zN1 (fun hlen => ?_) | refine zN2 (fun hlen => ?_) | refine zAl (fun _ => ?_) | refine zBx (fun _ => ?_))
        refine zCatb (uv ac.size ++ ac.data.toList ++ uv st.length ++ st.flatMap V.bytes ++ uv l.length ++ (l.take i).flatMap Inp.bytes ++ [kb kd]) vb (by simp only [List.length_append, List.length_cons, List.length_nil, sz_len]; omega) ?_
        repeat (first | refine gG ?_ | refine zN1 (fun hlen => ?_) | refine zN2 (fun hlen => ?_) | refine zAl (fun _ => ?_) | refine zBx (fun _ => ?_))
        exact ⟨i + 1, hi', by omega, x_wkd 0 ⟨rfl, by simp only [hsn, List.append_assoc, List.cons_append, List.nil_append]; rfl, trivial⟩ rfl (by repeat (first | exact ag_refl | refine ag_upd rfl ?_ | refine ag_at rfl rfl ?_))⟩
    · have hi' : i = l.length := by have : ¬ i < l.length := by simpa using h
                                    omega
      subst hi'
      rw [List.take_length]
      repeat (first | refine gG ?_ | refine zN1 (fun hlen => ?_) | refine zN2 (fun hlen => ?_) | refine zAl (fun _ => ?_) | refine zBx (fun _ => ?_))
      first | refine zR ?_ | refine zQ ?_
      simp only [List.append_assoc]; rfl
end Go.Proofs.Ythgackidonocpaa
namespace Go.Proofs.Ythgackidonocpaa
open Go.RowKit
def intTs (i : Int) : List T := [.lit (.int .i64 i)]
def intRow (l : List Int) : T := .row l.length 1 (l.flatMap intTs)
def letRow (l : List Lt) : T := .row l.length 9 (l.flatMap Lt.ts)
structure Par where
  ref : Int
  sav : Sav
  box : List Lt
  ticks : Int
  wat : List Int
  lnk : List Int
def Par.ts (p : Par) : List T := [.lit (.int .i64 p.ref), .lit (.string p.sav.actor), V.row p.sav.state, inpRow p.sav.inputs, letRow p.box, .lit (.int .i64 p.ticks), intRow p.wat, intRow p.lnk]
def Par.t (p : Par) : T := .agg p.ts
theorem Par.ts_len (p : Par) : p.ts.length = 8 := rfl
def low1 (n : Int) : Bool := decide (n < 1)
def Par.check (p : Par) : Int :=
  if (decide (p.ref < 1) || decide (p.ticks < -1)) = true then 3
  else if (decide ((60 : Int) < (p.box.length : Int)) || decide ((1000 : Int) < (p.wat.length : Int)) || decide ((1000 : Int) < (p.lnk.length : Int))) = true then 2
  else if ¬ p.sav.check = 0 then p.sav.check
  else if ¬ errs (p.box.map Lt.check) = 0 then errs (p.box.map Lt.check)
  else if (p.wat.any low1 || p.lnk.any low1) = true then 3 else 0
def nb (n : Int) : List UInt8 := uv n.toNat
def Par.bytes (p : Par) : List UInt8 := uv p.ref.toNat ++ (p.sav.bytes ++ (uv p.box.length ++ (p.box.flatMap Lt.bytes ++ (uv (zz p.ticks) ++ (uv p.wat.length ++ (p.wat.flatMap nb ++ (uv p.lnk.length ++ p.lnk.flatMap nb)))))))
structure Par.Right (p : Par) : Prop where
  ref : 1 ≤ p.ref
  sav : p.sav.check = 0
  box : ∀ x ∈ p.box, x.check = 0
  boxes : p.box.length ≤ 60
  wat : ∀ n ∈ p.wat, 1 ≤ n
  lnk : ∀ n ∈ p.lnk, 1 ≤ n
  wats : p.wat.length ≤ 1000
  lnks : p.lnk.length ≤ 1000
theorem low_all {l : List Int} (h : l.any low1 = false) : ∀ n ∈ l, 1 ≤ n := by
  intro n hn
  rw [List.any_eq_false] at h
  have := h n hn
  simp only [low1, decide_eq_true_eq] at this
  omega
theorem Par.right {p : Par} (h : p.check = 0) : p.Right := by
  unfold Par.check at h
  split at h
  · omega
  · rename_i h1
    split at h
    · omega
    · rename_i h2
      split at h
      · rename_i h3; exact absurd h h3
      · rename_i h3
        split at h
        · rename_i h4; exact absurd h h4
        · rename_i h4
          split at h
          · omega
          · rename_i h5
            simp only [Bool.or_eq_true, decide_eq_true_eq, not_or] at h1 h2
            simp only [Bool.not_eq_true, Bool.or_eq_false_iff] at h5
            exact ⟨by omega, by omega, errs_zero Lt.check (by omega), by omega, low_all h5.1, low_all h5.2, by omega, by omega⟩
def Lt.ok (x : Lt) : Prop := match x with | .mk _ fm tt n _ v => inI fm ∧ inI tt ∧ inI n ∧ v.ok ∧ v.bytes.length ≤ 9223372036854775807
structure Par.Ok (p : Par) : Prop where
  ref : inI p.ref
  ticks : inI p.ticks
  st : ∀ v ∈ p.sav.state, v.ok ∧ v.bytes.length ≤ 9223372036854775807
  inp : ∀ x ∈ p.sav.inputs, x.val.ok ∧ x.val.bytes.length ≤ 9223372036854775807
  box : ∀ x ∈ p.box, x.ok
  wat : ∀ n ∈ p.wat, inI n
  lnk : ∀ n ∈ p.lnk, inI n
def Lt.tiny (x : Lt) : Prop := x.ok ∧ x.val.size ≤ 1048576 ∧ x.bytes.length ≤ 40000000 ∧ x.Small
theorem Lt.tiny_of {k fm tt n : Int} {t : ByteArray} {v : V} (h1 : inI fm) (h2 : inI tt) (h3 : inI n) (h4 : t.size ≤ 4000000) (h5 : v.tiny) : (Lt.mk k fm tt n t v).tiny := by
  obtain ⟨v1, v2, v3⟩ := h5
  refine ⟨⟨h1, h2, h3, v1, by omega⟩, v2, ?_, ⟨v1, v2, by simp only [Lt.val]; omega, h1, h2, h3, by omega⟩⟩
  unfold inI at h1 h2 h3
  have u1 := uv_len64 (n := fm.toNat) (by omega)
  have u2 := uv_len64 (n := tt.toNat) (by omega)
  have u3 := uv_len64 (n := n.toNat) (by omega)
  have u4 := uv_len64 (n := t.size) (by omega)
  simp only [Lt.bytes, List.length_cons, List.length_append, sz_len]
  split
  · omega
  · simp only [List.length_nil]; omega
structure Par.Small (p : Par) : Prop where
  sav : p.sav.Small
  box : ∀ x ∈ p.box, x.tiny
  ref : inI p.ref
  ticks : inI p.ticks
  wat : ∀ n ∈ p.wat, inI n
  lnk : ∀ n ∈ p.lnk, inI n
theorem Par.Small.ok {p : Par} (h : p.Small) : p.Ok :=
  ⟨h.ref, h.ticks, fun v hv => ⟨(h.sav.state v hv).1, by have := (h.sav.state v hv).2.2; omega⟩, fun v hv => ⟨(h.sav.inp v hv).1, by have := (h.sav.inp v hv).2.2; omega⟩, fun x hx => (h.box x hx).1, h.wat, h.lnk⟩
def Par.out (p : Par) : List UInt8 := if p.check = 0 then p.bytes else []
def Par.zero : Par := ⟨0, Sav.zero, [], 0, [], []⟩
end Go.Proofs.Ythgackidonocpaa
namespace Go.Proofs.Ythgackidonocpaa
open Go.RowKit
set_option maxRecDepth 100000 in
set_option maxHeartbeats 8000000 in
theorem letterFault_af (x : Lt) (hs : x.val.size ≤ 1048576) : AF Try.prog 29 [x.t] (· = .lit (.int .i64 x.fault)) := by
  obtain ⟨k, fm, tt, n, t, v⟩ := x
  have h1 := valueFault_af v hs
  have h2 := none_af v
  simp only [Lt.fault]
  generalize v.check = cv at *
  generalize v.isZ = zv at *
  obtain ⟨kv, nv, tv, lv⟩ := v
  refine af_enter tok Try.func29 Try.ntmps29 Try.results29 rfl (by kernel_rfl) rfl rfl fun F hX => ?_
  cases qA : decide ((4000 : Int) < (t.size : Int))
  · skip
    cases qF : decide (fm < 0)
    · skip
      cases qT : decide (tt < 0)
      · skip
        cases qK1 : decide (k < 1)
        · skip
          cases qK5x : decide ((5 : Int) < k)
          · skip
            cases qK2 : decide (k = 2)
            · skip
              cases qN0 : decide (n = 0)
              · skip
                repeat (first | refine gG ?_ | refine zN1 (fun hlen => ?_) | refine zN2 (fun hlen => ?_) | refine zBf ?_)
                first | refine zR ?_ | refine zQ ?_
                first | rfl | (simp only [qA, qF, qT, qK1, qK5x, qK2, qN0]; first | rfl | simp) | simp
              · skip
                cases qNn : decide (n < 0)
                · skip
                  cases qN2 : decide ((2 : Int) < n)
                  · skip
                    cases qK5 : decide (k = 5)
                    · skip
                      cases qE : decide (t = ⟨#[]⟩)
                      · skip
                        repeat (first | refine gG ?_ | refine zN1 (fun hlen => ?_) | refine zN2 (fun hlen => ?_) | refine zBf ?_)
                        first | refine zR ?_ | refine zQ ?_
                        first | rfl | (simp only [qA, qF, qT, qK1, qK5x, qK2, qN0, qNn, qN2, qK5, qE]; first | rfl | simp) | simp
                      · skip
                        cases qKM : decide (k = 1)
                        · skip
                          repeat (first | refine gG ?_ | refine zN1 (fun hlen => ?_) | refine zN2 (fun hlen => ?_) | refine zBf ?_)
                          refine zCall (h2) ?_
                          rintro _ rfl
                          cases zv
                          · repeat (first | refine gG ?_ | refine zN1 (fun hlen => ?_) | refine zN2 (fun hlen => ?_) | refine zBx (fun _ => ?_))
                            first | refine zR ?_ | refine zQ ?_
                            first | rfl | (simp only [qA, qF, qT, qK1, qK5x, qK2, qN0, qNn, qN2, qK5, qE, qKM]; first | rfl | simp) | simp
                          · repeat (first | refine gG ?_ | refine zN1 (fun hlen => ?_) | refine zN2 (fun hlen => ?_) | refine zBx (fun _ => ?_))
                            first | refine zR ?_ | refine zQ ?_
                            first | rfl | (simp only [qA, qF, qT, qK1, qK5x, qK2, qN0, qNn, qN2, qK5, qE, qKM]; first | rfl | simp) | simp
                        · skip
                          repeat (first | refine gG ?_ | refine zN1 (fun hlen => ?_) | refine zN2 (fun hlen => ?_) | refine zBf ?_)
                          refine zCall (h1) ?_
                          rintro _ rfl
                          repeat (first | refine gG ?_ | refine zN1 (fun hlen => ?_) | refine zN2 (fun hlen => ?_) | refine zBx (fun _ => ?_))
                          first | refine zR ?_ | refine zQ ?_
                          first | rfl | (simp only [qA, qF, qT, qK1, qK5x, qK2, qN0, qNn, qN2, qK5, qE, qKM]; first | rfl | simp) | simp
                    · skip
                      cases qKM : decide (k = 1)
                      · skip
                        repeat (first | refine gG ?_ | refine zN1 (fun hlen => ?_) | refine zN2 (fun hlen => ?_) | refine zBf ?_)
                        refine zCall (h2) ?_
                        rintro _ rfl
                        cases zv
                        · repeat (first | refine gG ?_ | refine zN1 (fun hlen => ?_) | refine zN2 (fun hlen => ?_) | refine zBx (fun _ => ?_))
                          first | refine zR ?_ | refine zQ ?_
                          first | rfl | (simp only [qA, qF, qT, qK1, qK5x, qK2, qN0, qNn, qN2, qK5, qKM]; first | rfl | simp) | simp
                        · repeat (first | refine gG ?_ | refine zN1 (fun hlen => ?_) | refine zN2 (fun hlen => ?_) | refine zBx (fun _ => ?_))
                          first | refine zR ?_ | refine zQ ?_
                          first | rfl | (simp only [qA, qF, qT, qK1, qK5x, qK2, qN0, qNn, qN2, qK5, qKM]; first | rfl | simp) | simp
                      · skip
                        repeat (first | refine gG ?_ | refine zN1 (fun hlen => ?_) | refine zN2 (fun hlen => ?_) | refine zBf ?_)
                        refine zCall (h1) ?_
                        rintro _ rfl
                        repeat (first | refine gG ?_ | refine zN1 (fun hlen => ?_) | refine zN2 (fun hlen => ?_) | refine zBx (fun _ => ?_))
                        first | refine zR ?_ | refine zQ ?_
                        first | rfl | (simp only [qA, qF, qT, qK1, qK5x, qK2, qN0, qNn, qN2, qK5, qKM]; first | rfl | simp) | simp
                  · skip
                    repeat (first | refine gG ?_ | refine zN1 (fun hlen => ?_) | refine zN2 (fun hlen => ?_) | refine zBf ?_)
                    first | refine zR ?_ | refine zQ ?_
                    first | rfl | (simp only [qA, qF, qT, qK1, qK5x, qK2, qN0, qNn, qN2]; first | rfl | simp) | simp
                · skip
                  repeat (first | refine gG ?_ | refine zN1 (fun hlen => ?_) | refine zN2 (fun hlen => ?_) | refine zBf ?_)
                  first | refine zR ?_ | refine zQ ?_
                  first | rfl | (simp only [qA, qF, qT, qK1, qK5x, qK2, qN0, qNn]; first | rfl | simp) | simp
            · skip
              cases qNn : decide (n < 0)
              · skip
                cases qN2 : decide ((2 : Int) < n)
                · skip
                  cases qKM : decide (k = 1)
                  · skip
                    repeat (first | refine gG ?_ | refine zN1 (fun hlen => ?_) | refine zN2 (fun hlen => ?_) | refine zBf ?_)
                    refine zCall (h2) ?_
                    rintro _ rfl
                    cases zv
                    · repeat (first | refine gG ?_ | refine zN1 (fun hlen => ?_) | refine zN2 (fun hlen => ?_) | refine zBx (fun _ => ?_))
                      first | refine zR ?_ | refine zQ ?_
                      first | rfl | (simp only [qA, qF, qT, qK1, qK5x, qK2, qNn, qN2, qKM]; first | rfl | simp) | simp
                    · repeat (first | refine gG ?_ | refine zN1 (fun hlen => ?_) | refine zN2 (fun hlen => ?_) | refine zBx (fun _ => ?_))
                      first | refine zR ?_ | refine zQ ?_
                      first | rfl | (simp only [qA, qF, qT, qK1, qK5x, qK2, qNn, qN2, qKM]; first | rfl | simp) | simp
                  · skip
                    repeat (first | refine gG ?_ | refine zN1 (fun hlen => ?_) | refine zN2 (fun hlen => ?_) | refine zBf ?_)
                    refine zCall (h1) ?_
                    rintro _ rfl
                    repeat (first | refine gG ?_ | refine zN1 (fun hlen => ?_) | refine zN2 (fun hlen => ?_) | refine zBx (fun _ => ?_))
                    first | refine zR ?_ | refine zQ ?_
                    first | rfl | (simp only [qA, qF, qT, qK1, qK5x, qK2, qNn, qN2, qKM]; first | rfl | simp) | simp
                · skip
                  repeat (first | refine gG ?_ | refine zN1 (fun hlen => ?_) | refine zN2 (fun hlen => ?_) | refine zBf ?_)
                  first | refine zR ?_ | refine zQ ?_
                  first | rfl | (simp only [qA, qF, qT, qK1, qK5x, qK2, qNn, qN2]; first | rfl | simp) | simp
              · skip
                repeat (first | refine gG ?_ | refine zN1 (fun hlen => ?_) | refine zN2 (fun hlen => ?_) | refine zBf ?_)
                first | refine zR ?_ | refine zQ ?_
                first | rfl | (simp only [qA, qF, qT, qK1, qK5x, qK2, qNn]; first | rfl | simp) | simp
          · skip
            repeat (first | refine gG ?_ | refine zN1 (fun hlen => ?_) | refine zN2 (fun hlen => ?_) | refine zBf ?_)
            first | refine zR ?_ | refine zQ ?_
            first | rfl | (simp only [qA, qF, qT, qK1, qK5x]; first | rfl | simp) | simp
        · skip
          repeat (first | refine gG ?_ | refine zN1 (fun hlen => ?_) | refine zN2 (fun hlen => ?_) | refine zBf ?_)
          first | refine zR ?_ | refine zQ ?_
          first | rfl | (simp only [qA, qF, qT, qK1]; first | rfl | simp) | simp
      · skip
        repeat (first | refine gG ?_ | refine zN1 (fun hlen => ?_) | refine zN2 (fun hlen => ?_) | refine zBf ?_)
        first | refine zR ?_ | refine zQ ?_
        first | rfl | (simp only [qA, qF, qT]; first | rfl | simp) | simp
    · skip
      repeat (first | refine gG ?_ | refine zN1 (fun hlen => ?_) | refine zN2 (fun hlen => ?_) | refine zBf ?_)
      first | refine zR ?_ | refine zQ ?_
      first | rfl | (simp only [qA, qF]; first | rfl | simp) | simp
  · skip
    repeat (first | refine gG ?_ | refine zN1 (fun hlen => ?_) | refine zN2 (fun hlen => ?_) | refine zBf ?_)
    first | refine zR ?_ | refine zQ ?_
    first | rfl | (simp only [qA]; first | rfl | simp) | simp
end Go.Proofs.Ythgackidonocpaa
