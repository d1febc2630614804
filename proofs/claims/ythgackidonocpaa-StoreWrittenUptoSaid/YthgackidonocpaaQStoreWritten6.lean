/-
  Texts of this proof, part 6: Twi Tap Tck Ttk Trt5 Ab24 Tvf0.
-/
import Derived.Test.YthgackidonocpaaQStoreWritten5
import Derived.MapKept
namespace Go.Proofs.Ythgackidonocpaa
open Go.RowKit
theorem wrap_u64 (a : Int) : IntKind.u64.wrap a = a % 18446744073709551616 := by
  simp [IntKind.wrap, IntKind.bits, IntKind.signed]
theorem xor_ones {x : Nat} (h : x < 2 ^ 64) : x ^^^ (2 ^ 64 - 1) = 2 ^ 64 - 1 - x := by
  have h1 : (BitVec.ofNat 64 x ^^^ BitVec.allOnes 64).toNat = x ^^^ (2 ^ 64 - 1) := by
    rw [BitVec.toNat_xor, BitVec.toNat_ofNat, BitVec.toNat_allOnes, Nat.mod_eq_of_lt h]
  rw [← h1, BitVec.xor_allOnes, BitVec.toNat_not, BitVec.toNat_ofNat, Nat.mod_eq_of_lt h]
theorem zz_xor {n : Int} (h : inI n) : IntKind.u64.wrap ((((IntKind.u64.wrap (IntKind.u64.wrap n * 2 ^ (min (1 : Int).toNat IntKind.u64.bits))) % 2 ^ IntKind.u64.bits).toNat ^^^ ((IntKind.u64.wrap (n.fdiv (2 ^ (min (63 : Int).toNat IntKind.i64.bits)))) % 2 ^ IntKind.u64.bits).toNat : Nat) : Int) = ((zz n : Nat) : Int) := by
  have e1 : (2 : Int) ^ (min (1 : Int).toNat IntKind.u64.bits) = 2 := rfl
  have e2 : (2 : Int) ^ (min (63 : Int).toNat IntKind.i64.bits) = 9223372036854775808 := rfl
  have e3 : (2 : Int) ^ IntKind.u64.bits = 18446744073709551616 := rfl
  rw [e1, e2, e3, Int.fdiv_eq_ediv_of_nonneg _ (by omega)]
  simp only [wrap_u64]
  unfold inI at h
  unfold zz
  by_cases h0 : 0 ≤ n
  · rw [if_pos h0]
    have g1 : (n / 9223372036854775808 % 18446744073709551616 % 18446744073709551616).toNat = 0 := by omega
    rw [g1, Nat.xor_zero]
    omega
  · rw [if_neg h0]
    have g1 : (n / 9223372036854775808 % 18446744073709551616 % 18446744073709551616).toNat = 2 ^ 64 - 1 := by omega
    rw [g1, xor_ones (by omega)]
    omega
set_option maxRecDepth 100000 in
set_option maxHeartbeats 2000000 in
theorem nat_ag (v : Value) (l : List UInt8) (n : Nat) (hn : n < 9223372036854775808) (hl : l.length ≤ 1099511627776) :
    AG Try.prog 169 [.own 0 v, .c (.lit (.int .i64 (n : Int)))] [.row v 5 1 l.length (byts l)] (Grew 5 (l ++ uv n)) := by
  have hc := unsigned_ag v l n (by omega) hl
  refine ag_enter 1 tok Try.func169 Try.ntmps169 Try.results169 rfl (by kernel_rfl) rfl fun F => ?_
  repeat (first | refine gG ?_)
  refine lo_conv tok rfl rfl rfl rfl (r := (n : Int)) (by rw [wrap_u64]; omega) ?_
  repeat (first | refine gG ?_)
  refine zCallG [0] hc ?_
  rintro _ _ ⟨v', rfl, rfl⟩
  refine ⟨.own 0 v', _, re_own, rfl, rfl, ?_⟩
  repeat (first | refine gG ?_)
  refine zG ?_
  exact ⟨_, rfl, rfl⟩
set_option maxRecDepth 100000 in
set_option maxHeartbeats 2000000 in
theorem int_ag (v : Value) (l : List UInt8) (n : Int) (hn : inI n) (hl : l.length ≤ 1099511627776) :
    AG Try.prog 156 [.own 0 v, .c (.lit (.int .i64 n))] [.row v 5 1 l.length (byts l)] (Grew 5 (l ++ uv (zz n))) := by
  have hc := unsigned_ag v l (zz n) (zz_lt hn) hl
  refine ag_enter 1 tok Try.func156 Try.ntmps156 Try.results156 rfl (by kernel_rfl) rfl fun F => ?_
  repeat (first | refine gG ?_)
  refine lo_conv tok rfl rfl rfl rfl rfl ?_
  repeat (first | refine gG ?_)
  refine lo_shl rfl rfl (by omega) rfl ?_
  repeat (first | refine gG ?_)
  refine lo_shr rfl rfl (by omega) rfl ?_
  repeat (first | refine gG ?_)
  refine lo_conv tok rfl rfl rfl rfl rfl ?_
  repeat (first | refine gG ?_)
  refine lo_xor rfl rfl (zz_xor hn) ?_
  repeat (first | refine gG ?_)
  refine zCallG [0] hc ?_
  rintro _ _ ⟨v', rfl, rfl⟩
  refine ⟨.own 0 v', _, re_own, rfl, rfl, ?_⟩
  repeat (first | refine gG ?_)
  refine zG ?_
  exact ⟨_, rfl, rfl⟩
set_option maxRecDepth 100000 in
set_option maxHeartbeats 2000000 in
theorem text_ag (v : Value) (l : List UInt8) (s : ByteArray) (hl : l.length + s.size ≤ 1099511627776) :
    AG Try.prog 158 [.own 0 v, .c (.lit (.string s))] [.row v 5 1 l.length (byts l)] (Grew 5 (l ++ (uv s.size ++ s.data.toList))) := by
  have hc := nat_ag v l s.size (by omega) (by omega)
  have hul := uv_len64 (n := s.size) (by omega)
  refine ag_enter 1 tok Try.func158 Try.ntmps158 Try.results158 rfl (by kernel_rfl) rfl fun F => ?_
  repeat (first | refine gG ?_ | refine zN1 (fun hlen => ?_) | refine zN2 (fun hlen => ?_) | refine zAp (fun _ => ?_))
  refine zCallG [0] hc ?_
  rintro _ _ ⟨v', rfl, rfl⟩
  refine ⟨.own 0 v', _, re_own, rfl, rfl, ?_⟩
  repeat (first | refine gG ?_ | refine zN1 (fun hlen => ?_) | refine zN2 (fun hlen => ?_) | refine zAp (fun _ => ?_))
  refine zAps (s := s) (n := (l ++ uv s.size).length) (by simp only [List.length_append]; omega) (fun v'' => ?_)
  repeat (first | refine gG ?_ | refine zN1 (fun hlen => ?_) | refine zN2 (fun hlen => ?_) | refine zAp (fun _ => ?_))
  refine zG ?_
  exact ⟨_, rfl, by simp only [byts_app, List.length_append, sz_len, List.append_assoc, Nat.add_assoc]⟩
end Go.Proofs.Ythgackidonocpaa
namespace Go.Proofs.Ythgackidonocpaa
open Go.RowKit
theorem kb_T (k : Int) : bytT (kb k) = T.lit (.int .u8 (IntKind.u8.wrap k)) := by
  have h1 : IntKind.u8.wrap k = k % 256 := by simp [IntKind.wrap, IntKind.bits, IntKind.signed]
  have h2 : (k % 256).toNat < 256 := by omega
  unfold bytT kb
  rw [h1, UInt8.toNat_ofNat', Nat.mod_eq_of_lt (by simpa using h2)]
  congr 2
  omega
set_option maxRecDepth 100000 in
set_option maxHeartbeats 2000000 in
theorem listV_ag (f : FuncId) (enc : V → List UInt8) (l : List V) (hf : ∀ x ∈ l, ∀ (v : Value) (b : List UInt8), b.length + (enc x).length ≤ 1099511627776 → AG Try.prog f [.own 0 v, .c x.t] [.row v 5 1 b.length (byts b)] (Grew 5 (b ++ enc x)))
    (v : Value) (b : List UInt8) (hn : l.length < 9223372036854775808) (hb : b.length + (uv l.length ++ l.flatMap enc).length ≤ 1099511627776) :
    AG Try.prog 157 [.own 0 v, .c (V.row l), .fn (.func f) []] [.row v 5 1 b.length (byts b)] (Grew 5 (b ++ (uv l.length ++ l.flatMap enc))) := by
  have hc := nat_ag v b l.length hn (by omega)
  refine ag_enter 1 tok Try.func157 Try.ntmps157 Try.results157 rfl (by kernel_rfl) rfl fun F => ?_
  repeat (first | refine gG ?_ | refine zN1 (fun hlen => ?_) | refine zN2 (fun hlen => ?_) | refine zAl (fun _ => ?_))
  refine zCallG [0] hc ?_
  rintro _ _ ⟨v', rfl, rfl⟩
  refine ⟨.own 0 v', _, re_own, rfl, rfl, ?_⟩
  repeat (first | refine gG ?_ | refine zN1 (fun hlen => ?_) | refine zN2 (fun hlen => ?_) | refine zAl (fun _ => ?_))
  refine x_loop [0, 8, 15, 16, 17, 18, 19, 20, 21, 22, 23] (fun y : Nat × Value => [(15, .c (.lit (.int .i64 (y.1 : Nat)))), (0, .own 0 y.2)]) (fun y => [.row y.2 5 1 (b ++ (uv l.length ++ (l.take y.1).flatMap enc)).length (byts (b ++ (uv l.length ++ (l.take y.1).flatMap enc)))])
    (fun y => y.1 ≤ l.length) (fun y => l.length - y.1) (0, v') (Nat.zero_le _) ⟨rfl, rfl, trivial⟩ (by simp) ?_
  rintro ⟨k, u⟩ hk
  dsimp only at hk ⊢
  repeat (first | refine gG ?_ | refine zN1 (fun hlen => ?_) | refine zN2 (fun hlen => ?_) | refine zAl (fun _ => ?_))
  refine x_cond rfl (fun h => ?_) (fun h => ?_)
  · have hk' : k < l.length := by simpa using h
    obtain ⟨a, ha⟩ := nth hk'
    have hsn := flat_snoc' enc ha
    have hle : ((l.take (k + 1)).flatMap enc).length ≤ (l.flatMap enc).length := by
      have := congrArg (fun r => (List.flatMap enc r).length) (List.take_append_drop (k + 1) l)
      simp only [List.flatMap_append, List.length_append] at this
      omega
    have hca := hf a (List.mem_of_getElem? ha) u (b ++ (uv l.length ++ (l.take k).flatMap enc)) (by
      rw [hsn] at hle
      simp only [List.length_append] at hle hb ⊢
      omega)
    repeat (first | refine gG ?_ | refine zN1 (fun hlen => ?_) | refine zN2 (fun hlen => ?_) | refine zAl (fun _ => ?_))
    refine zIx (k) (hk') ?_
    repeat (first | refine gG ?_ | refine zN1 (fun hlen => ?_) | refine zN2 (fun hlen => ?_) | refine zAl (fun _ => ?_))
    refine zEl (V.at ha) (V.ts_len a) ?_
    obtain ⟨ka, na, ta, la⟩ := a
    repeat (first | refine gG ?_ | refine zN1 (fun hlen => ?_) | refine zN2 (fun hlen => ?_) | refine zAl (fun _ => ?_))
    refine zCallG [0] hca ?_
    rintro _ _ ⟨u', rfl, rfl⟩
    refine ⟨.own 0 u', _, re_own, rfl, rfl, ?_⟩
    repeat (first | refine gG ?_ | refine zN1 (fun hlen => ?_) | refine zN2 (fun hlen => ?_) | refine zAl (fun _ => ?_))
    exact ⟨(k + 1, u'), hk', by simp only; omega, x_wkd 1 ⟨rfl, rfl, trivial⟩ (by simp only [hsn, List.append_assoc]; rfl) (by repeat (first | exact ag_refl | refine ag_upd rfl ?_ | refine ag_at rfl rfl ?_))⟩
  · have hk' : k = l.length := by have : ¬ k < l.length := by simpa using h
                                  omega
    subst hk'
    repeat (first | refine gG ?_ | refine zN1 (fun hlen => ?_) | refine zN2 (fun hlen => ?_) | refine zAl (fun _ => ?_))
    refine zG ?_
    refine ⟨_, rfl, ?_⟩
    rw [List.take_length]
set_option maxRecDepth 100000 in
set_option maxHeartbeats 2000000 in
theorem appendValue_ag (x : V) : x.ok → ∀ (v : Value) (b : List UInt8), b.length + x.bytes.length ≤ 1099511627776 →
    AG Try.prog 74 [.own 0 v, .c x.t] [.row v 5 1 b.length (byts b)] (Grew 5 (b ++ x.bytes)) := by
  induction x using V.ind with
  | h k n t l ih =>
    intro hok v b hb
    simp only [V.ok] at hok
    have hok2 := (V.oks_iff l).1 hok.2
    simp only [V.bytes, V.bytesAll_eq, List.length_cons, List.length_append, sz_len] at hb
    have hi1 : ∀ v1, AG Try.prog 156 [.own 0 v1, .c (.lit (.int .i64 n))] [.row v1 5 1 (b.length + 1) (byts b ++ [.lit (.int .u8 (IntKind.u8.wrap k))])] (Grew 5 (b ++ (kb k :: uv (zz n)))) := by
      intro v1
      have h := int_ag v1 (b ++ [kb k]) n hok.1 (by simp only [List.length_append, List.length_cons, List.length_nil]; omega)
      rw [← kb_T]
      simpa [byts] using h
    have hi2 := fun v2 => text_ag v2 (b ++ (kb k :: uv (zz n))) t (by simp only [List.length_append, List.length_cons]; omega)
    have hln : l.length ≤ 1099511627776 := by
      have h1 : ∀ r : List V, r.length ≤ (r.flatMap V.bytes).length := by
        intro r
        induction r with
        | nil => simp
        | cons a r ih => obtain ⟨ka, na, ta, la⟩ := a; simp only [List.flatMap_cons, List.length_append, List.length_cons, V.bytes]; omega
      have := h1 l
      omega
    have hi3 := fun v3 => listV_ag 74 V.bytes l (fun x hx v b hb => ih x hx (hok2 x hx) v b hb) v3 (b ++ (kb k :: uv (zz n)) ++ (uv t.size ++ t.data.toList)) (by omega) (by simp only [List.length_append, List.length_cons, sz_len]; omega)
    refine ag_enter 1 tok Try.func74 Try.ntmps74 Try.results74 rfl (by kernel_rfl) rfl fun F => ?_
    repeat (first | refine gG ?_ | refine zBf ?_ | refine zAp (fun _ => ?_))
    refine ac_draw [1, 1, 1, 1, 1, 2, 0, 0, 2, 1] [0, 1, 2, 3, 4, 6, 7, 5, 8, 9] (by kernel_rfl) (by kernel_rfl) ?_
    refine gW ?_
    apply w_q; (focus exact rfl); (focus exact rfl); focus (intro _; (refine lo_conv tok rfl rfl rfl rfl rfl ?_); exact det_refl)
    refine gW ?_
    apply w_l; (focus exact rfl); (focus exact rfl); (first | (refine zkL ?_; first | refine zL1 ?_ | refine zL2 ?_ | refine zL3 ?_ | refine zLp ?_) | refine zM ?_ | (refine zkF ?_; first | refine zF1 ?_ | refine zF2 ?_ | refine zF3 ?_) | refine zA ?_ | (refine zkB ?_; first | refine zC5 ?_ | refine zC6 ?_ | refine zC1 ?_ | refine zC2 ?_ | refine zC3 ?_ | refine zC4 ?_ | refine zS5 ?_ | refine zS6 ?_ | refine zS1 ?_ | refine zS2 ?_ | refine zS3 ?_ | refine zS4 ?_ | refine zInc ?_ | refine zQ1 ?_ | refine zQ2 ?_ | refine zQ3 ?_ | refine zQ4 ?_ | refine zQ5 ?_ | refine zQ6 ?_) | (refine zkI ?_; first | refine zN1 (fun hlen => ?_) | refine zN2 (fun hlen => ?_) | refine zN3 ?_ | refine zN4 ?_ | refine zAp (fun _ => ?_)) | refine zS ?_ | refine zAl (fun _ => ?_) | refine zBx (fun _ => ?_) | refine zPt ?_ | refine zPf ?_ | refine zE ?_ | refine zEA ?_ | refine zNot ?_ | refine zBd ?_ | refine zBs ?_ | refine zFn ?_ | refine zK1 ?_ | refine zK2 ?_)
    apply w_l; (focus exact rfl); (focus exact rfl); (refine zCallG [0] (hi1 _) ?_; rintro _ _ ⟨v', rfl, rfl⟩; refine ⟨.own 0 v', _, re_own, rfl, rfl, ?_⟩)
    refine gW ?_
    refine w_nil ?_
    repeat (first | refine gG ?_ | refine zBx (fun _ => ?_) | refine zAp (fun _ => ?_))
    rename_i v2
    refine ac_draw [1, 1, 1, 2, 0, 0, 2, 1] [0, 1, 2, 4, 5, 3, 6, 7] (by kernel_rfl) (by kernel_rfl) ?_
    refine gW ?_
    apply w_l; (focus exact rfl); (focus exact rfl); (refine zCallG [0] (hi2 _) ?_; rintro _ _ ⟨v', rfl, rfl⟩; refine ⟨.own 0 v', _, re_own, rfl, rfl, ?_⟩)
    apply w_l; (focus exact rfl); (focus exact rfl); (refine zCallG [0] (hi3 _) ?_; rintro _ _ ⟨v', rfl, rfl⟩; refine ⟨.own 0 v', _, re_own, rfl, rfl, ?_⟩)
    refine gW ?_
    refine w_nil ?_
    repeat (first | refine gG ?_ | refine zBx (fun _ => ?_) | refine zAp (fun _ => ?_))
    refine zG ?_
    exact ⟨_, rfl, by simp only [V.bytes, V.bytesAll_eq, List.append_assoc, List.cons_append]⟩
end Go.Proofs.Ythgackidonocpaa
namespace Go.Proofs.Ythgackidonocpaa
open Go.RowKit
theorem all_snoc {α : Type} (q : α → Bool) {l : List α} {k : Nat} {a : α} (h : l[k]? = some a) : (l.take (k + 1)).all q = ((l.take k).all q && q a) := by
  obtain ⟨h1, rfl⟩ := List.getElem?_eq_some_iff.1 h
  rw [List.take_succ_eq_append_getElem h1, List.all_append]
  simp
theorem all_no {α : Type} (q : α → Bool) {l : List α} {k : Nat} {a : α} (h : l[k]? = some a) (hq : q a = false) : l.all q = false := by
  rw [List.all_eq_false]
  exact ⟨a, List.mem_of_getElem? h, by simp [hq]⟩
/-- not too deep, no text too long -/
def bigN (x : V) (d : Nat) : Bool := !decide ((40 : Int) < (d : Int)) && !decide ((4000 : Int) < (x.text.size : Int))
def V.fitB (v : V) (L d : Nat) : Bool := decide (v.size ≤ L) && v.every bigN d
theorem V.fitB_eq (k n : Int) (t : ByteArray) (l : List V) (L d : Nat) : (V.mk k n t l).fitB L d = (decide (V.sizes l + 1 ≤ L) && ((!decide ((40 : Int) < (d : Int)) && !decide ((4000 : Int) < (t.size : Int))) && l.all fun x => x.every bigN (d + 1))) := by
  simp only [V.fitB, V.size, V.every, V.everys_eq, bigN, V.text]
  rfl
theorem V.sizes_snoc {l : List V} {k : Nat} {a : V} (h : l[k]? = some a) : V.sizes (l.take (k + 1)) = V.sizes (l.take k) + a.size := by
  obtain ⟨h1, rfl⟩ := List.getElem?_eq_some_iff.1 h
  rw [List.take_succ_eq_append_getElem h1, V.sizes_app]
  simp [V.sizes]
set_option maxRecDepth 100000 in
set_option maxHeartbeats 2000000 in
theorem fits_ag (v : V) : ∀ (L d b : Nat), L ≤ 400 → d ≤ 41 →
    AG Try.prog 76 [.c v.t, .ptr 0 b 0, .c (.lit (.int .i64 (d : Int)))] [.box b 3 [.c (.lit (.int .i64 (L : Int)))]]
      (fun r hs => ∃ x : Int, hs = [.box b 3 [.c (.lit (.int .i64 x))]] ∧ r = .c (.lit (.bool (v.fitB L d))) ∧ (v.fitB L d = true → x = (L : Int) - (v.size : Int))) := by
  induction v using V.ind with
  | h k n t l ih =>
    intro L d b hL hd
    refine ag_enter 1 tok Try.func76 Try.ntmps76 Try.results76 rfl (by kernel_rfl) rfl fun F => ?_
    repeat (first | refine gG ?_ | refine zN1 (fun hlen => ?_) | refine zN2 (fun hlen => ?_) | refine zAl (fun _ => ?_) | refine zBf ?_)
    refine zSub ?_
    cases d1 : decide ((L : Int) - 1 < 0)
    · cases d2 : decide ((40 : Int) < (d : Int))
      · cases d3 : decide ((4000 : Int) < (t.size : Int))
        · have hd1 : ¬ (L : Int) - 1 < 0 := of_decide_eq_false d1
          have hd2 : ¬ (40 : Int) < (d : Int) := of_decide_eq_false d2
          have hL1 : ((L - 1 : Nat) : Int) = (L : Int) - 1 := by omega
          repeat (first | refine gG ?_ | refine zN1 (fun hlen => ?_) | refine zN2 (fun hlen => ?_) | refine zAl (fun _ => ?_) | refine zBx (fun _ => ?_))
          refine x_loop [6, 8, 31, 32, 33, 34, 35, 36, 37, 38, 39, 40, 41] (fun y : Nat × Nat => [(31, .c (.lit (.int .i64 (y.1 : Nat))))]) (fun y => [.box b 3 [.c (.lit (.int .i64 (y.2 : Int)))]])
            (fun y => y.1 ≤ l.length ∧ y.2 + 1 + V.sizes (l.take y.1) = L ∧ (l.take y.1).all (fun x => x.every bigN (d + 1)) = true) (fun y => l.length - y.1) (0, L - 1) ⟨Nat.zero_le _, by simp [V.sizes]; omega, by simp⟩ ⟨rfl, trivial⟩ (by simp only [hL1]) ?_
          rintro ⟨i, m⟩ ⟨hi, hm, ha⟩
          dsimp only at hi hm ha ⊢
          repeat (first | refine gG ?_ | refine zN1 (fun hlen => ?_) | refine zN2 (fun hlen => ?_) | refine zAl (fun _ => ?_) | refine zBx (fun _ => ?_))
          refine x_cond rfl (fun h => ?_) (fun h => ?_)
          · have hi' : i < l.length := by simpa using h
            obtain ⟨a, hla⟩ := nth hi'
            have hc := ih a (List.mem_of_getElem? hla) m (d + 1) b (by omega) (by omega)
            have hsn := V.sizes_snoc hla
            have hsa := all_snoc (fun x => x.every bigN (d + 1)) hla
            have hle := V.take_sizes l (i + 1)
            repeat (first | refine gG ?_ | refine zN1 (fun hlen => ?_) | refine zN2 (fun hlen => ?_) | refine zAl (fun _ => ?_) | refine zBx (fun _ => ?_))
            refine zIx (i) (hi') ?_
            repeat (first | refine gG ?_ | refine zN1 (fun hlen => ?_) | refine zN2 (fun hlen => ?_) | refine zAl (fun _ => ?_) | refine zBx (fun _ => ?_))
            refine zEl (V.at hla) (V.ts_len a) ?_
            obtain ⟨ka, na, ta, la⟩ := a
            repeat (first | refine gG ?_ | refine zN1 (fun hlen => ?_) | refine zN2 (fun hlen => ?_) | refine zAl (fun _ => ?_) | refine zBx (fun _ => ?_))
            refine zCallG [0] hc ?_
            rintro _ _ ⟨x, rfl, rfl, hx⟩
            refine ⟨_, _, re_refl, rfl, rfl, ?_⟩
            cases hf : (V.mk ka na ta la).fitB m (d + 1)
            · repeat (first | refine gG ?_ | refine zN1 (fun hlen => ?_) | refine zN2 (fun hlen => ?_) | refine zAl (fun _ => ?_) | refine zBx (fun _ => ?_))
              refine zG ?_
              refine ⟨_, rfl, ?_, ?_⟩
              all_goals
                have hno : (V.mk k n t l).fitB L d = false := by
                  simp only [V.fitB, Bool.and_eq_false_iff, decide_eq_false_iff_not] at hf ⊢
                  rcases hf with hf | hf
                  · left; simp only [V.size] at hsn hf ⊢; omega
                  · right; rw [V.every, V.everys_eq, all_no _ hla hf, Bool.and_false]
                rw [hno]
              · rfl
              · intro h; cases h
            · have hx' := hx hf
              simp only [V.fitB, Bool.and_eq_true, decide_eq_true_eq] at hf
              repeat (first | refine gG ?_ | refine zN1 (fun hlen => ?_) | refine zN2 (fun hlen => ?_) | refine zAl (fun _ => ?_) | refine zBx (fun _ => ?_))
              refine ⟨(i + 1, m - (V.mk ka na ta la).size), ⟨hi', by simp only; omega, by simp only; rw [hsa, ha, hf.2]; rfl⟩, by simp only; omega, x_wkd 1 ⟨rfl, trivial⟩ ?_ (by repeat (first | exact ag_refl | refine ag_upd rfl ?_ | refine ag_at rfl rfl ?_))⟩
              have : ((m - (V.mk ka na ta la).size : Nat) : Int) = x := by omega
              simp only [this]
              rfl
          · have hi' : i = l.length := by have : ¬ i < l.length := by simpa using h
                                          omega
            subst hi'
            rw [List.take_length] at hm ha
            have hyes : (V.mk k n t l).fitB L d = true := by
              rw [V.fitB_eq, d2, d3, ha, decide_eq_true (show V.sizes l + 1 ≤ L by omega)]
              rfl
            repeat (first | refine gG ?_ | refine zN1 (fun hlen => ?_) | refine zN2 (fun hlen => ?_) | refine zAl (fun _ => ?_) | refine zBx (fun _ => ?_))
            refine zG ?_
            refine ⟨_, rfl, by rw [hyes]; rfl, fun _ => by simp only [V.size]; omega⟩
        · have hno : (V.mk k n t l).fitB L d = false := by rw [V.fitB_eq, d3]; simp
          repeat (first | refine gG ?_ | refine zN1 (fun hlen => ?_) | refine zN2 (fun hlen => ?_) | refine zAl (fun _ => ?_) | refine zBx (fun _ => ?_))
          refine zG ?_
          refine ⟨_, rfl, by rw [hno]; rfl, fun h => by rw [hno] at h; cases h⟩
      · have hno : (V.mk k n t l).fitB L d = false := by rw [V.fitB_eq, d2]; simp
        repeat (first | refine gG ?_ | refine zN1 (fun hlen => ?_) | refine zN2 (fun hlen => ?_) | refine zAl (fun _ => ?_) | refine zBx (fun _ => ?_))
        refine zG ?_
        refine ⟨_, rfl, by rw [hno]; rfl, fun h => by rw [hno] at h; cases h⟩
    · have hno : (V.mk k n t l).fitB L d = false := by
        have hd1 : (L : Int) - 1 < 0 := of_decide_eq_true d1
        rw [V.fitB_eq, decide_eq_false (show ¬ V.sizes l + 1 ≤ L by omega)]
        rfl
      repeat (first | refine gG ?_ | refine zN1 (fun hlen => ?_) | refine zN2 (fun hlen => ?_) | refine zAl (fun _ => ?_) | refine zBx (fun _ => ?_))
      refine zG ?_
      refine ⟨_, rfl, by rw [hno]; rfl, fun h => by rw [hno] at h; cases h⟩
/-- a node uses only the fields of its kind -/
def formN : V → Bool
  | .mk k n t l =>
    if k = 1 then decide (n = 0) && decide (t = ⟨#[]⟩) && decide ((l.length : Int) = 0)
    else if k = 2 then decide (t = ⟨#[]⟩) && decide ((l.length : Int) = 0)
    else if k = 6 then decide (t = ⟨#[]⟩) && decide ((l.length : Int) = 0)
    else if k = 3 then (decide (n = 0) || decide (n = 1)) && decide (t = ⟨#[]⟩) && decide ((l.length : Int) = 0)
    else if k = 4 then decide (n = 0) && decide ((l.length : Int) = 0)
    else if k = 5 then decide (n = 0) && !decide (t = ⟨#[]⟩)
    else if k = 7 then true
    else if k = 8 then decide (n = 0) && decide (t = ⟨#[]⟩) && decide ((l.length : Int) ≤ 1)
    else false
def formP (x : V) (_ : Nat) : Bool := formN x
theorem V.form_eq (k n : Int) (t : ByteArray) (l : List V) (d : Nat) : (V.mk k n t l).every formP d = (formN (.mk k n t l) && l.all fun x => x.every formP (d + 1)) := by
  rw [V.every, V.everys_eq]; rfl
set_option maxRecDepth 100000 in
set_option maxHeartbeats 2000000 in
theorem formed_af (v : V) : ∀ d : Nat, AF Try.prog 77 [v.t] (· = .lit (.bool (v.every formP d))) := by
  induction v using V.ind with
  | h k n t l ih =>
    intro d
    refine af_enter tok Try.func77 Try.ntmps77 Try.results77 rfl (by kernel_rfl) rfl rfl fun F hX => ?_
    repeat (first | refine gG ?_ | refine zN1 (fun hlen => ?_) | refine zN2 (fun hlen => ?_) | refine zAl (fun _ => ?_) | refine zBf ?_)
    refine ac_draw [1, 1, 1, 1, 1, 1, 1, 1, 1, 1, 1, 1, 1] [0, 1, 2, 3, 4, 5, 6, 7, 8, 9, 10, 11, 12] (by kernel_rfl) (by kernel_rfl) ?_
    refine gW ?_
    refine w_nil ?_
    refine ac_seq ?_
    refine x_join [18, 19, 20, 21, 22, 23, 24, 25, 26, 27, 28, 29, 30, 31, 32, 33, 34, 35, 36, 37, 38, 39, 40, 41, 42, 43, 44, 45, 46, 47, 48, 2, 3, 4, 5] (fun y : {y : Bool × Bool × Bool // (y.1 && y.2.1 && y.2.2) = formN (.mk k n t l)} => [(3, .c (.lit (.bool y.1.1))), (4, .c (.lit (.bool y.1.2.1))), (5, .c (.lit (.bool y.1.2.2)))]) (fun _ => []) ?_ ?_
    rotate_left
    · cases d1 : decide (k = 1)
      · cases d2 : decide (k = 2)
        · cases d6 : decide (k = 6)
          · cases d3 : decide (k = 3)
            · cases d4 : decide (k = 4)
              · cases d5 : decide (k = 5)
                · cases d7 : decide (k = 7)
                  · cases d8 : decide (k = 8)
                    · have hno : formN (.mk k n t l) = false := by simp_all [formN]
                      repeat (first | refine gG ?_ | refine zN1 (fun hlen => ?_) | refine zN2 (fun hlen => ?_) | refine zAl (fun _ => ?_) | refine zBx (fun _ => ?_))
                      first | refine zR ?_ | refine zQ ?_
                      rw [V.form_eq, hno]; rfl
                    · obtain rfl := of_decide_eq_true d8
                      repeat (first | refine gG ?_ | refine zN1 (fun hlen => ?_) | refine zN2 (fun hlen => ?_) | refine zAl (fun _ => ?_) | refine zBx (fun _ => ?_))
                      exact ⟨⟨(decide (n = 0), decide (t = ⟨#[]⟩), decide ((l.length : Int) ≤ 1)), by simp [formN]⟩, x_wkd 0 ⟨rfl, rfl, rfl, trivial⟩ rfl (by repeat (first | exact ag_refl | refine ag_upd rfl ?_ | refine ag_at rfl rfl ?_))⟩
                  · obtain rfl := of_decide_eq_true d7
                    repeat (first | refine gG ?_ | refine zN1 (fun hlen => ?_) | refine zN2 (fun hlen => ?_) | refine zAl (fun _ => ?_) | refine zBx (fun _ => ?_))
                    exact ⟨⟨(true, true, true), by simp [formN]⟩, x_wkd 0 ⟨rfl, rfl, rfl, trivial⟩ rfl (by repeat (first | exact ag_refl | refine ag_upd rfl ?_ | refine ag_at rfl rfl ?_))⟩
                · obtain rfl := of_decide_eq_true d5
                  repeat (first | refine gG ?_ | refine zN1 (fun hlen => ?_) | refine zN2 (fun hlen => ?_) | refine zAl (fun _ => ?_) | refine zBx (fun _ => ?_))
                  exact ⟨⟨(decide (n = 0), !decide (t = ⟨#[]⟩), true), by simp [formN]⟩, x_wkd 0 ⟨rfl, rfl, rfl, trivial⟩ rfl (by repeat (first | exact ag_refl | refine ag_upd rfl ?_ | refine ag_at rfl rfl ?_))⟩
              · obtain rfl := of_decide_eq_true d4
                repeat (first | refine gG ?_ | refine zN1 (fun hlen => ?_) | refine zN2 (fun hlen => ?_) | refine zAl (fun _ => ?_) | refine zBx (fun _ => ?_))
                exact ⟨⟨(decide (n = 0), true, decide ((l.length : Int) = 0)), by simp [formN]⟩, x_wkd 0 ⟨rfl, rfl, rfl, trivial⟩ rfl (by repeat (first | exact ag_refl | refine ag_upd rfl ?_ | refine ag_at rfl rfl ?_))⟩
            · obtain rfl := of_decide_eq_true d3
              cases dz : decide (n = 0)
              · repeat (first | refine gG ?_ | refine zN1 (fun hlen => ?_) | refine zN2 (fun hlen => ?_) | refine zAl (fun _ => ?_) | refine zBx (fun _ => ?_))
                exact ⟨⟨(decide (n = 1), decide (t = ⟨#[]⟩), decide ((l.length : Int) = 0)), by simp [formN, dz]⟩, x_wkd 0 ⟨rfl, rfl, rfl, trivial⟩ rfl (by repeat (first | exact ag_refl | refine ag_upd rfl ?_ | refine ag_at rfl rfl ?_))⟩
              · repeat (first | refine gG ?_ | refine zN1 (fun hlen => ?_) | refine zN2 (fun hlen => ?_) | refine zAl (fun _ => ?_) | refine zBx (fun _ => ?_))
                exact ⟨⟨(true, decide (t = ⟨#[]⟩), decide ((l.length : Int) = 0)), by simp [formN, dz]⟩, x_wkd 0 ⟨rfl, rfl, rfl, trivial⟩ rfl (by repeat (first | exact ag_refl | refine ag_upd rfl ?_ | refine ag_at rfl rfl ?_))⟩
          · obtain rfl := of_decide_eq_true d6
            repeat (first | refine gG ?_ | refine zN1 (fun hlen => ?_) | refine zN2 (fun hlen => ?_) | refine zAl (fun _ => ?_) | refine zBx (fun _ => ?_))
            exact ⟨⟨(true, decide (t = ⟨#[]⟩), decide ((l.length : Int) = 0)), by simp [formN]⟩, x_wkd 0 ⟨rfl, rfl, rfl, trivial⟩ rfl (by repeat (first | exact ag_refl | refine ag_upd rfl ?_ | refine ag_at rfl rfl ?_))⟩
        · obtain rfl := of_decide_eq_true d2
          repeat (first | refine gG ?_ | refine zN1 (fun hlen => ?_) | refine zN2 (fun hlen => ?_) | refine zAl (fun _ => ?_) | refine zBx (fun _ => ?_))
          exact ⟨⟨(true, decide (t = ⟨#[]⟩), decide ((l.length : Int) = 0)), by simp [formN]⟩, x_wkd 0 ⟨rfl, rfl, rfl, trivial⟩ rfl (by repeat (first | exact ag_refl | refine ag_upd rfl ?_ | refine ag_at rfl rfl ?_))⟩
      · obtain rfl := of_decide_eq_true d1
        repeat (first | refine gG ?_ | refine zN1 (fun hlen => ?_) | refine zN2 (fun hlen => ?_) | refine zAl (fun _ => ?_) | refine zBx (fun _ => ?_))
        exact ⟨⟨(decide (n = 0), decide (t = ⟨#[]⟩), decide ((l.length : Int) = 0)), by simp [formN]⟩, x_wkd 0 ⟨rfl, rfl, rfl, trivial⟩ rfl (by repeat (first | exact ag_refl | refine ag_upd rfl ?_ | refine ag_at rfl rfl ?_))⟩
    rintro ⟨⟨y1, y2, y3⟩, hy⟩
    dsimp only at hy ⊢
    cases y1
    · repeat (first | refine gG ?_ | refine zN1 (fun hlen => ?_) | refine zN2 (fun hlen => ?_) | refine zAl (fun _ => ?_) | refine zBx (fun _ => ?_))
      first | refine zR ?_ | refine zQ ?_
      rw [V.form_eq, ← hy]; rfl
    cases y2
    · repeat (first | refine gG ?_ | refine zN1 (fun hlen => ?_) | refine zN2 (fun hlen => ?_) | refine zAl (fun _ => ?_) | refine zBx (fun _ => ?_))
      first | refine zR ?_ | refine zQ ?_
      rw [V.form_eq, ← hy]; rfl
    cases y3
    · repeat (first | refine gG ?_ | refine zN1 (fun hlen => ?_) | refine zN2 (fun hlen => ?_) | refine zAl (fun _ => ?_) | refine zBx (fun _ => ?_))
      first | refine zR ?_ | refine zQ ?_
      rw [V.form_eq, ← hy]; rfl
    repeat (first | refine gG ?_ | refine zN1 (fun hlen => ?_) | refine zN2 (fun hlen => ?_) | refine zAl (fun _ => ?_) | refine zBx (fun _ => ?_))
    refine x_loop [2, 7, 62, 63, 64, 65, 66, 67, 68, 69] (fun y : Nat => [(62, .c (.lit (.int .i64 (y : Nat))))]) (fun _ => []) (fun y => y ≤ l.length ∧ (l.take y).all (fun x => x.every formP (d + 1)) = true) (fun y => l.length - y) 0 ⟨Nat.zero_le _, by simp⟩ ⟨rfl, trivial⟩ rfl ?_
    rintro i ⟨hi, ha⟩
    repeat (first | refine gG ?_ | refine zN1 (fun hlen => ?_) | refine zN2 (fun hlen => ?_) | refine zAl (fun _ => ?_) | refine zBx (fun _ => ?_))
    refine x_cond rfl (fun h => ?_) (fun h => ?_)
    · have hi' : i < l.length := by simpa using h
      obtain ⟨a, hla⟩ := nth hi'
      have hc := ih a (List.mem_of_getElem? hla) (d + 1)
      have hsa := all_snoc (fun x => x.every formP (d + 1)) hla
      repeat (first | refine gG ?_ | refine zN1 (fun hlen => ?_) | refine zN2 (fun hlen => ?_) | refine zAl (fun _ => ?_) | refine zBx (fun _ => ?_))
      refine zIx (i) (hi') ?_
      repeat (first | refine gG ?_ | refine zN1 (fun hlen => ?_) | refine zN2 (fun hlen => ?_) | refine zAl (fun _ => ?_) | refine zBx (fun _ => ?_))
      refine zEl (V.at hla) (V.ts_len a) ?_
      obtain ⟨ka, na, ta, la⟩ := a
      repeat (first | refine gG ?_ | refine zN1 (fun hlen => ?_) | refine zN2 (fun hlen => ?_) | refine zAl (fun _ => ?_) | refine zBx (fun _ => ?_))
      refine zCall (hc) ?_
      rintro _ rfl
      cases hf : (V.mk ka na ta la).every formP (d + 1)
      · repeat (first | refine gG ?_ | refine zN1 (fun hlen => ?_) | refine zN2 (fun hlen => ?_) | refine zAl (fun _ => ?_) | refine zBx (fun _ => ?_))
        first | refine zR ?_ | refine zQ ?_
        rw [V.form_eq, all_no _ hla hf, Bool.and_false]; rfl
      · repeat (first | refine gG ?_ | refine zN1 (fun hlen => ?_) | refine zN2 (fun hlen => ?_) | refine zAl (fun _ => ?_) | refine zBx (fun _ => ?_))
        exact ⟨i + 1, ⟨hi', by rw [hsa, ha, hf]; rfl⟩, by omega, x_wkd 0 ⟨rfl, trivial⟩ rfl (by repeat (first | exact ag_refl | refine ag_upd rfl ?_ | refine ag_at rfl rfl ?_))⟩
    · have hi' : i = l.length := by have : ¬ i < l.length := by simpa using h
                                    omega
      subst hi'
      rw [List.take_length] at ha
      repeat (first | refine gG ?_ | refine zN1 (fun hlen => ?_) | refine zN2 (fun hlen => ?_) | refine zAl (fun _ => ?_) | refine zBx (fun _ => ?_))
      first | refine zR ?_ | refine zQ ?_
      rw [V.form_eq, ha, ← hy]; rfl
/-- what Check says -/
def V.check (v : V) : Int := if v.fitB 400 1 then (if v.every formP 1 then 0 else 3) else 2
set_option maxRecDepth 100000 in
set_option maxHeartbeats 2000000 in
theorem check_af (v : V) : AF Try.prog 17 [v.t] (· = .lit (.int .i64 v.check)) := by
  have hc := fun b => fits_ag v 400 1 b (by omega) (by omega)
  have hf := formed_af v 1
  obtain ⟨k, n, t, l⟩ := v
  refine af_enter tok Try.func17 Try.ntmps17 Try.results17 rfl (by kernel_rfl) rfl rfl fun F hX => ?_
  repeat (first | refine gG ?_ | refine zAl (fun _ => ?_) | refine zBf ?_)
  refine zCallG [0] (hc _) ?_
  rintro _ _ ⟨x, rfl, rfl, -⟩
  refine ⟨_, _, re_refl, rfl, rfl, ?_⟩
  cases h1 : (V.mk k n t l).fitB 400 1
  · repeat (first | refine gG ?_ | refine zAl (fun _ => ?_) | refine zBx (fun _ => ?_))
    first | refine zR ?_ | refine zQ ?_
    rw [V.check, h1]; rfl
  · repeat (first | refine gG ?_ | refine zAl (fun _ => ?_) | refine zBx (fun _ => ?_))
    refine zCall (hf) ?_
    rintro _ rfl
    cases h2 : (V.mk k n t l).every formP 1
    · repeat (first | refine gG ?_ | refine zAl (fun _ => ?_) | refine zBx (fun _ => ?_))
      first | refine zR ?_ | refine zQ ?_
      rw [V.check, h1, h2]; rfl
    · repeat (first | refine gG ?_ | refine zAl (fun _ => ?_) | refine zBx (fun _ => ?_))
      first | refine zR ?_ | refine zQ ?_
      rw [V.check, h1, h2]; rfl
end Go.Proofs.Ythgackidonocpaa
namespace Go.Proofs.Ythgackidonocpaa
open Go.RowKit
structure TS where
  l : List UInt8
  ok : Bool
end Go.Proofs.Ythgackidonocpaa
namespace Go.Proofs.Ythgackidonocpaa
open Go.RowKit
theorem tmod128 (u : Nat) : ((u : Int)).tmod 128 = ((u % 128 : Nat) : Int) := by
  rw [Int.tmod_eq_emod_of_nonneg (by omega)]; omega
theorem tdiv128 (u : Nat) : ((u : Int)).tdiv 128 = ((u / 128 : Nat) : Int) := by
  rw [Int.tdiv_eq_ediv_of_nonneg (by omega)]; omega
theorem one_u8 {n : Nat} (h : n < 256) : [T.lit (.int .u8 (n : Int))] = byts [UInt8.ofNat n] := by rw [u8_of h]; rfl
theorem one_kb (k : Int) : [T.lit (.int .u8 (IntKind.u8.wrap k))] = byts [kb k] := by rw [← kb_T]; rfl
set_option maxRecDepth 100000 in
set_option maxHeartbeats 2000000 in
theorem rnat_af (n : Nat) (hn : n < 2 ^ 64) : AF Try.prog 107 [.lit (.int .u64 (n : Int))] (· = .lit (.string (bs (uv n)))) := by
  have hul := uv_len64 hn
  refine af_enter tok Try.func107 Try.ntmps107 Try.results107 rfl (by kernel_rfl) rfl rfl fun F hX => ?_
  repeat (first | refine gG ?_)
  refine x_loop [0, 3, 4, 5, 6, 7, 8, 9, 10, 11, 12, 13, 14, 15] (fun y : Nat × List UInt8 => [(0, .c (.lit (.int .u64 (y.1 : Int)))), (3, .c (.lit (.string (bs y.2))))]) (fun _ => [])
    (fun y => y.1 < 2 ^ 64 ∧ y.2 ++ uv y.1 = uv n) (fun y => y.1) (n, []) ⟨hn, rfl⟩ ⟨rfl, rfl, trivial⟩ rfl ?_
  rintro ⟨u, l⟩ ⟨hu, hinv⟩
  dsimp only at hu hinv ⊢
  have hlen : l.length + (uv u).length ≤ 10 := by
    have := congrArg List.length hinv
    simp only [List.length_append] at this
    omega
  repeat (first | refine gG ?_)
  refine x_cond rfl (fun h => ?_) (fun h => ?_)
  · have hu' : ¬ u < 128 := by have : (127 : Int) < (u : Int) := of_decide_eq_true h
                               omega
    rw [uv_big hu'] at hinv hlen
    simp only [List.length_cons] at hlen
    repeat (first | refine gG ?_)
    refine lo_rem rfl rfl (by omega) (tmod128 u) ?_
    repeat (first | refine gG ?_)
    refine lo_add rfl rfl (r := ((u % 128 + 128 : Nat) : Int)) (by rw [wrap_u64]; omega) ?_
    repeat (first | refine gG ?_)
    refine lo_conv tok rfl rfl rfl rfl (r := ((u % 128 + 128 : Nat) : Int)) (by rw [wrap_u8]; omega) ?_
    repeat (first | refine gG ?_)
    refine zStr [UInt8.ofNat (u % 128 + 128)] (one_u8 (show u % 128 + 128 < 256 by omega)) rfl ?_
    repeat (first | refine gG ?_)
    refine zCatb l [UInt8.ofNat (u % 128 + 128)] (by simp only [List.length_cons, List.length_nil]; omega) ?_
    repeat (first | refine gG ?_)
    refine lo_quo rfl rfl (by omega) (r := ((u / 128 : Nat) : Int)) (by rw [tdiv128, wrap_u64]; omega) ?_
    repeat (first | refine gG ?_)
    exact ⟨(u / 128, l ++ [UInt8.ofNat (u % 128 + 128)]), ⟨by simp only; omega, by simpa using hinv⟩, by simp only; omega, x_wkd 0 ⟨rfl, rfl, trivial⟩ rfl (by repeat (first | exact ag_refl | refine ag_upd rfl ?_ | refine ag_at rfl rfl ?_))⟩
  · have hu' : u < 128 := by have : ¬ (127 : Int) < (u : Int) := of_decide_eq_false h
                             omega
    rw [uv_small hu'] at hinv hlen
    simp only [List.length_cons, List.length_nil] at hlen
    repeat (first | refine gG ?_)
    refine lo_conv tok rfl rfl rfl rfl (r := (u : Int)) (by rw [wrap_u8]; omega) ?_
    repeat (first | refine gG ?_)
    refine zStr [UInt8.ofNat u] (one_u8 (show u < 256 by omega)) rfl ?_
    repeat (first | refine gG ?_)
    refine zCatb l [UInt8.ofNat u] (by simp only [List.length_cons, List.length_nil]; omega) ?_
    repeat (first | refine gG ?_)
    first | refine zR ?_ | refine zQ ?_
    rw [hinv]; rfl
set_option maxRecDepth 100000 in
set_option maxHeartbeats 2000000 in
theorem rnum_af (n : Int) (hn : inI n) : AF Try.prog 108 [.lit (.int .i64 n)] (· = .lit (.string (bs (uv (zz n))))) := by
  have hc := rnat_af (zz n) (zz_lt hn)
  unfold inI at hn
  refine af_enter tok Try.func108 Try.ntmps108 Try.results108 rfl (by kernel_rfl) rfl rfl fun F hX => ?_
  cases d1 : decide (n < 0)
  · have h0 : ¬ n < 0 := of_decide_eq_false d1
    repeat (first | refine gG ?_)
    refine lo_conv tok rfl rfl rfl rfl (r := n) (by rw [wrap_u64]; omega) ?_
    repeat (first | refine gG ?_)
    refine lo_mul rfl rfl (r := ((zz n : Nat) : Int)) (by rw [wrap_u64, zz, if_pos (by omega)]; omega) ?_
    repeat (first | refine gG ?_)
    refine zCall (hc) ?_
    rintro _ rfl
    repeat (first | refine gG ?_)
    first | refine zR ?_ | refine zQ ?_
    rfl
  · have h0 : n < 0 := of_decide_eq_true d1
    repeat (first | refine gG ?_)
    refine lo_add rfl rfl (r := n + 1) (by rw [IntWalk.i64_in _ (by omega)]) ?_
    repeat (first | refine gG ?_)
    refine lo_neg rfl (r := 0 - (n + 1)) (by rw [IntWalk.i64_in _ (by omega)]) ?_
    repeat (first | refine gG ?_)
    refine lo_conv tok rfl rfl rfl rfl (r := 0 - (n + 1)) (by rw [wrap_u64]; omega) ?_
    repeat (first | refine gG ?_)
    refine lo_mul rfl rfl (r := 2 * (0 - (n + 1))) (by rw [wrap_u64]; omega) ?_
    repeat (first | refine gG ?_)
    refine lo_add rfl rfl (r := ((zz n : Nat) : Int)) (by rw [wrap_u64, zz, if_neg (by omega)]; omega) ?_
    repeat (first | refine gG ?_)
    refine zCall (hc) ?_
    rintro _ rfl
    repeat (first | refine gG ?_)
    first | refine zR ?_ | refine zQ ?_
    rfl
set_option maxRecDepth 100000 in
set_option maxHeartbeats 4000000 in
theorem valueText_af (v : V) : v.ok → v.bytes.length ≤ 1099511627776 → AF Try.prog 75 [v.t] (· = .lit (.string (bs v.bytes))) := by
  induction v using V.ind with
  | h k n t l ih =>
    intro hok hb
    simp only [V.ok] at hok
    have hok2 := (V.oks_iff l).1 hok.2
    simp only [V.bytes, V.bytesAll_eq, List.length_cons, List.length_append, sz_len] at hb
    have hln : l.length ≤ 1099511627776 := by
      have h1 : ∀ r : List V, r.length ≤ (r.flatMap V.bytes).length := by
        intro r
        induction r with
        | nil => simp
        | cons a r ih => obtain ⟨ka, na, ta, la⟩ := a; simp only [List.flatMap_cons, List.length_append, List.length_cons, V.bytes]; omega
      have := h1 l
      omega
    have h1 := rnum_af n hok.1
    have h2 := rnat_af t.size (by omega)
    have h3 := rnat_af l.length (by omega)
    have w1 : IntKind.u64.wrap (t.size : Int) = (t.size : Int) := by rw [wrap_u64]; omega
    have w2 : IntKind.u64.wrap (l.length : Int) = (l.length : Int) := by rw [wrap_u64]; omega
    refine af_enter tok Try.func75 Try.ntmps75 Try.results75 rfl (by kernel_rfl) rfl rfl fun F hX => ?_
    repeat (first | refine gG ?_ | refine zN1 (fun hlen => ?_) | refine zN2 (fun hlen => ?_) | refine zAl (fun _ => ?_) | refine zBf ?_)
    refine ac_draw [1, 1, 1, 1, 1, 1, 1, 1, 1, 1, 1, 1, 1, 1, 1, 1, 1, 1, 1, 1, 1, 1, 1, 1, 1] [0, 1, 2, 3, 4, 5, 6, 7, 8, 9, 10, 11, 12, 13, 14, 15, 16, 17, 18, 19, 20, 21, 22, 23, 24] (by kernel_rfl) (by kernel_rfl) ?_
    refine gW ?_
    apply w_q; (focus exact rfl); (focus exact rfl); focus (intro _; (refine lo_conv tok rfl rfl rfl rfl rfl ?_); exact det_refl)
    refine gW ?_
    apply w_q; (focus exact rfl); (focus exact rfl); focus (intro _; (refine zStr [kb k] (one_kb k) rfl ?_); exact det_refl)
    refine gW ?_
    apply w_q; (focus exact rfl); (focus exact rfl); focus (intro _; (refine lo_call h1 rfl (by repeat (first | exact rzs_nil | apply rzs_cons | exact rz_c | exact rz_nil rfl | apply rz_agg | exact rz_own rfl | apply rz_fn | exact rz_ptr rfl | apply rz_tup)) ?_; rintro _ rfl); exact det_refl)
    apply w_q; (focus exact rfl); (focus exact rfl); focus (intro _; (refine zCatb [kb k] (uv (zz n)) (by simp only [List.length_cons, List.length_nil]; omega) ?_); exact det_refl)
    refine gW ?_
    apply w_q; (focus exact rfl); (focus exact rfl); focus (intro _; (refine lo_conv tok rfl rfl rfl rfl w1 ?_); exact det_refl)
    apply w_q; (focus exact rfl); (focus exact rfl); focus (intro _; (refine lo_call h2 rfl (by repeat (first | exact rzs_nil | apply rzs_cons | exact rz_c | exact rz_nil rfl | apply rz_agg | exact rz_own rfl | apply rz_fn | exact rz_ptr rfl | apply rz_tup)) ?_; rintro _ rfl); exact det_refl)
    apply w_q; (focus exact rfl); (focus exact rfl); focus (intro _; (refine zCatb ([kb k] ++ uv (zz n)) (uv t.size) (by simp only [List.length_append, List.length_cons, List.length_nil]; omega) ?_); exact det_refl)
    refine gW ?_
    apply w_q; (focus exact rfl); (focus exact rfl); focus (intro _; (refine zCatb ([kb k] ++ uv (zz n) ++ uv t.size) t.data.toList (by simp only [List.length_append, List.length_cons, List.length_nil, sz_len]; omega) ?_); exact det_refl)
    refine gW ?_
    apply w_q; (focus exact rfl); (focus exact rfl); focus (intro _; (refine lo_conv tok rfl rfl rfl rfl w2 ?_); exact det_refl)
    apply w_q; (focus exact rfl); (focus exact rfl); focus (intro _; (refine lo_call h3 rfl (by repeat (first | exact rzs_nil | apply rzs_cons | exact rz_c | exact rz_nil rfl | apply rz_agg | exact rz_own rfl | apply rz_fn | exact rz_ptr rfl | apply rz_tup)) ?_; rintro _ rfl); exact det_refl)
    apply w_q; (focus exact rfl); (focus exact rfl); focus (intro _; (refine zCatb ([kb k] ++ uv (zz n) ++ uv t.size ++ t.data.toList) (uv l.length) (by simp only [List.length_append, List.length_cons, List.length_nil, sz_len]; omega) ?_); exact det_refl)
    refine gW ?_
    refine w_nil ?_
    repeat (first | refine gG ?_ | refine zN1 (fun hlen => ?_) | refine zN2 (fun hlen => ?_) | refine zAl (fun _ => ?_) | refine zBx (fun _ => ?_))
    refine x_loop [3, 5, 33, 34, 35, 36, 37, 38, 39, 40, 41] (fun y : Nat => [(33, .c (.lit (.int .i64 (y : Nat)))), (3, .c (.lit (.string (bs ([kb k] ++ uv (zz n) ++ uv t.size ++ t.data.toList ++ uv l.length ++ (l.take y).flatMap V.bytes)))))]) (fun _ => []) (fun y => y ≤ l.length) (fun y => l.length - y) 0 (Nat.zero_le _) ⟨rfl, by simp; rfl, trivial⟩ rfl ?_
    intro i hi
    repeat (first | refine gG ?_ | refine zN1 (fun hlen => ?_) | refine zN2 (fun hlen => ?_) | refine zAl (fun _ => ?_) | refine zBx (fun _ => ?_))
    refine x_cond rfl (fun h => ?_) (fun h => ?_)
    · have hi' : i < l.length := by simpa using h
      obtain ⟨a, hla⟩ := nth hi'
      have hsn := flat_snoc' V.bytes hla
      have hle : ((l.take (i + 1)).flatMap V.bytes).length ≤ (l.flatMap V.bytes).length := by
        have := congrArg (fun r => (List.flatMap V.bytes r).length) (List.take_append_drop (i + 1) l)
        simp only [List.flatMap_append, List.length_append] at this
        omega
      rw [hsn, List.length_append] at hle
      have hc := ih a (List.mem_of_getElem? hla) (hok2 a (List.mem_of_getElem? hla)) (by omega)
      repeat (first | refine gG ?_ | refine zN1 (fun hlen => ?_) | refine zN2 (fun hlen => ?_) | refine zAl (fun _ => ?_) | refine zBx (fun _ => ?_))
      refine zIx (i) (hi') ?_
      repeat (first | refine gG ?_ | refine zN1 (fun hlen => ?_) | refine zN2 (fun hlen => ?_) | refine zAl (fun _ => ?_) | refine zBx (fun _ => ?_))
      refine zEl (V.at hla) (V.ts_len a) ?_
      obtain ⟨ka, na, ta, la⟩ := a
      repeat (first | refine gG ?_ | refine zN1 (fun hlen => ?_) | refine zN2 (fun hlen => ?_) | refine zAl (fun _ => ?_) | refine zBx (fun _ => ?_))
      refine zCall (hc) ?_
      rintro _ rfl
      repeat (first | refine gG ?_ | refine zN1 (fun hlen => ?_) | refine zN2 (fun hlen => ?_) | refine zAl (fun _ => ?_) | refine zBx (fun _ => ?_))
      refine zCatb ([kb k] ++ uv (zz n) ++ uv t.size ++ t.data.toList ++ uv l.length ++ (l.take i).flatMap V.bytes) (V.mk ka na ta la).bytes (by simp only [List.length_append, List.length_cons, List.length_nil, sz_len]; omega) ?_
      repeat (first | refine gG ?_ | refine zN1 (fun hlen => ?_) | refine zN2 (fun hlen => ?_) | refine zAl (fun _ => ?_) | refine zBx (fun _ => ?_))
      exact ⟨i + 1, hi', by omega, x_wkd 0 ⟨rfl, by simp only [hsn, List.append_assoc]; rfl, trivial⟩ rfl (by repeat (first | exact ag_refl | refine ag_upd rfl ?_ | refine ag_at rfl rfl ?_))⟩
    · have hi' : i = l.length := by have : ¬ i < l.length := by simpa using h
                                    omega
      subst hi'
      rw [List.take_length]
      repeat (first | refine gG ?_ | refine zN1 (fun hlen => ?_) | refine zN2 (fun hlen => ?_) | refine zAl (fun _ => ?_) | refine zBx (fun _ => ?_))
      first | refine zR ?_ | refine zQ ?_
      simp only [V.bytes, V.bytesAll_eq, List.append_assoc, List.cons_append, List.nil_append]; rfl
end Go.Proofs.Ythgackidonocpaa
namespace Go.Proofs.Ythgackidonocpaa
open Go.RowKit
inductive Pl where
  | fin (r : List Nat)
  | fork (p : List Nat) (i : Nat) (a : Pl) (j : Nat) (b : Pl)
def Pl.n : Pl → Nat
  | .fin r => r.length
  | .fork p _ a _ _ => a.n + 1 + p.length
end Go.Proofs.Ythgackidonocpaa
namespace Go.Proofs.Ythgackidonocpaa
open Go.RowKit
abbrev Vd := V × Nat
def atTs (x : Vd) : List T := x.1.ts ++ [.lit (.int .i64 (x.2 : Int))]
theorem atTs_len (x : Vd) : (atTs x).length = 5 := by simp [atTs, V.ts_len]
def kids (x : Vd) : List Vd := x.1.args.map fun a => (a, x.2 + 1)
def vsz (l : List Vd) : Nat := V.sizes (l.map (·.1))
theorem vsz_app (l r : List Vd) : vsz (l ++ r) = vsz l + vsz r := by simp [vsz, V.sizes_app]
theorem vsz_kids (x : Vd) : vsz (kids x) + 1 = x.1.size := by
  obtain ⟨⟨k, n, t, l⟩, d⟩ := x
  simp [vsz, kids, V.args, V.size, Function.comp_def]
theorem vsz_len (l : List Vd) : l.length ≤ vsz l := by
  have := V.len_sizes (l.map (·.1))
  simpa [vsz] using this
/-- the first i of the list are done, the rest stand for what is below them too -/
structure Lev (v : V) (all : List Vd) (i : Nat) : Prop where
  le : i ≤ all.length
  size : i + vsz (all.drop i) = v.size
  deep : ∀ x ∈ all, x.2 ≤ all.length
  sub : ∀ x ∈ all, x.1.size ≤ v.size
  every : ∀ p : V → Nat → Bool, ((all.take i).all (fun x => p x.1 x.2) && (all.drop i).all (fun x => x.1.every p x.2)) = v.every p 1
theorem Lev.zero (v : V) : Lev v [(v, 1)] 0 := ⟨by simp, by simp [vsz, V.sizes], by simp, by simp, fun p => by simp⟩
theorem Lev.step {v : V} {all : List Vd} {i : Nat} {x : Vd} (h : Lev v all i) (hx : all[i]? = some x) : Lev v (all ++ kids x) (i + 1) := by
  obtain ⟨hi, rfl⟩ := List.getElem?_eq_some_iff.1 hx
  have hd := List.drop_eq_getElem_cons hi
  have hdrop : (all ++ kids all[i]).drop (i + 1) = all.drop (i + 1) ++ kids all[i] := by rw [List.drop_append_of_le_length (by omega)]
  have htake : (all ++ kids all[i]).take (i + 1) = all.take i ++ [all[i]] := by rw [List.take_append_of_le_length (by omega), List.take_succ_eq_append_getElem hi]
  refine ⟨by simp; omega, ?_, ?_, ?_, fun p => ?_⟩
  · have h1 := h.size
    have h2 := vsz_kids all[i]
    rw [hd] at h1
    rw [hdrop, vsz_app]
    have h3 : vsz (all[i] :: all.drop (i + 1)) = all[i].1.size + vsz (all.drop (i + 1)) := by simp only [vsz, List.map_cons, V.sizes]
    omega
  · intro y hy
    rcases List.mem_append.1 hy with hy | hy
    · have := h.deep y hy; simp; omega
    · simp only [kids, List.mem_map] at hy
      obtain ⟨a, ha, rfl⟩ := hy
      have h1 := h.deep all[i] (List.getElem_mem hi)
      have h2 : 0 < all[i].1.args.length := List.length_pos_of_mem ha
      simp [kids]; omega
  · intro y hy
    rcases List.mem_append.1 hy with hy | hy
    · exact h.sub y hy
    · simp only [kids, List.mem_map] at hy
      obtain ⟨a, ha, rfl⟩ := hy
      have h1 := h.sub all[i] (List.getElem_mem hi)
      have h2 : a.size ≤ all[i].1.size := by
        generalize all[i] = z at ha h1 ⊢
        obtain ⟨⟨k, n, t, l⟩, d⟩ := z
        have := V.size_mem ha
        simp only [V.args] at this
        simp only [V.size]
        omega
      exact Nat.le_trans h2 h1
  · rw [← h.every p, hdrop, htake, hd]
    have h4 : all[i].1.every p all[i].2 = (p all[i].1 all[i].2 && (kids all[i]).all fun x => x.1.every p x.2) := by
      generalize all[i] = z
      obtain ⟨⟨k, n, t, l⟩, d⟩ := z
      simp only [V.every, V.everys_eq, kids, V.args, List.all_map]
      rfl
    simp only [List.all_append, List.all_cons, List.all_nil, Bool.and_true, h4]
    cases (all.take i).all fun x => p x.1 x.2 <;> cases p all[i].1 all[i].2 <;> cases (all.drop (i + 1)).all fun x => x.1.every p x.2 <;> cases (kids all[i]).all fun x => x.1.every p x.2 <;> rfl
theorem Lev.len {v : V} {all : List Vd} {i : Nat} (h : Lev v all i) : all.length ≤ v.size := by
  have h1 := h.size
  have h2 := vsz_len (all.drop i)
  rw [List.length_drop] at h2
  have := h.le
  omega
theorem Lev.done {v : V} {all : List Vd} (h : Lev v all all.length) : all.length = v.size ∧ ∀ p : V → Nat → Bool, (all.all fun x => p x.1 x.2) = v.every p 1 := by
  refine ⟨?_, fun p => ?_⟩
  · have := h.size
    rw [List.drop_length] at this
    simpa [vsz, V.sizes] using this
  · have := h.every p
    rw [List.drop_length, List.take_length] at this
    simpa using this
theorem byt_at {l : List UInt8} {k : Nat} {a : UInt8} (h : l[k]? = some a) : (byts l)[k * 1]? = some (bytT a) := by simp [byts, h]
theorem u8_eq (a b : UInt8) : decide ((a.toNat : Int) = (b.toNat : Int)) = decide (a = b) := by
  by_cases h : a = b
  · simp [h]
  · rw [decide_eq_false h, decide_eq_false]
    intro e
    exact h (UInt8.toNat_inj.1 (by omega))
set_option maxRecDepth 100000 in
set_option maxHeartbeats 1000000 in
theorem indexB_af (c : UInt8) (l : List UInt8) : AF Try.prog 159 [bytRow l, bytT c] (· = .lit (.int .i64 (idxI (fun b => decide (c = b)) l))) := by
  refine af_enter tok Try.func159 Try.ntmps159 Try.results159 rfl (by kernel_rfl) rfl rfl fun F hX => ?_
  repeat (first | refine gG ?_ | refine zN1 (fun hlen => ?_) | refine zN2 (fun hlen => ?_))
  refine x_loop [4, 5, 8, 9, 10, 11, 12, 13, 14, 15, 16, 17, 18] (fun k : Nat => [(8, .c (.lit (.int .i64 k)))]) (fun _ => []) (fun k => k ≤ l.length ∧ idxAt (fun b => decide (c = b)) l k) (fun k => l.length - k) 0 ⟨Nat.zero_le _, idxAt_zero _ l⟩ ⟨rfl, trivial⟩ rfl fun k hk => ?_
  repeat (first | refine gG ?_ | refine zN1 (fun hlen => ?_) | refine zN2 (fun hlen => ?_))
  refine x_cond rfl (fun h => ?_) (fun h => ?_)
  · have hk' : k < l.length := by simpa using h
    obtain ⟨a, ha⟩ := nth hk'
    repeat (first | refine gG ?_ | refine zN1 (fun hlen => ?_) | refine zN2 (fun hlen => ?_))
    refine zIx k hk' ?_
    repeat (first | refine gG ?_ | refine zN1 (fun hlen => ?_) | refine zN2 (fun hlen => ?_))
    refine zEl1 (byt_at ha) ?_
    cases hq : decide (c = a)
    · have hq' : decide ((c.toNat : Int) = (a.toNat : Int)) = false := by rw [u8_eq]; exact hq
      repeat (first | refine gG ?_ | refine zN1 (fun hlen => ?_) | refine zN2 (fun hlen => ?_))
      exact ⟨k + 1, ⟨hk', idxAt_no hk.2 ha hq⟩, by omega, x_wkd 0 ⟨rfl, trivial⟩ rfl (by repeat (first | exact ag_refl | refine ag_upd rfl ?_ | refine ag_at rfl rfl ?_))⟩
    · have hq' : decide ((c.toNat : Int) = (a.toNat : Int)) = true := by rw [u8_eq]; exact hq
      repeat (first | refine gG ?_ | refine zN1 (fun hlen => ?_) | refine zN2 (fun hlen => ?_))
      first | refine zR ?_ | refine zQ ?_
      rw [idxAt_yes hk.2 ha hq]; rfl
  · have hk' : k = l.length := by have : ¬ k < l.length := by simpa using h
                                  omega
    subst hk'
    repeat (first | refine gG ?_ | refine zN1 (fun hlen => ?_) | refine zN2 (fun hlen => ?_))
    first | refine zR ?_ | refine zQ ?_
    rw [idxAt_end hk.2]; rfl
set_option maxRecDepth 100000 in
set_option maxHeartbeats 1000000 in
theorem containsB_af (c : UInt8) (l : List UInt8) : AF Try.prog 78 [bytRow l, bytT c] (· = .lit (.bool (l.any fun b => decide (c = b)))) := by
  have hc := indexB_af c l
  refine af_enter tok Try.func78 Try.ntmps78 Try.results78 rfl (by kernel_rfl) rfl rfl fun F hX => ?_
  repeat (first | refine gG ?_)
  refine zCall (hc) ?_
  rintro _ rfl
  repeat (first | refine gG ?_)
  first | refine zR ?_ | refine zQ ?_
  rw [← idxI_any]; rfl
/-- a node whose parts are asq the list of its kind says -/
def okB (n : Int) (t : ByteArray) (m : Nat) (has : ByteArray) (most : Int) : Bool :=
  !((!decide (n = 0)) && !(has.data.toList.any fun b => decide ((110 : UInt8) = b))) && !((!decide (t = ⟨#[]⟩)) && !(has.data.toList.any fun b => decide ((116 : UInt8) = b))) && !decide (most < (m : Int))
theorem len0 (l : List V) : (!decide ((0 : Int) < (l.length : Int))) = decide ((l.length : Int) = 0) := by
  by_cases h : (l.length : Int) = 0
  · rw [decide_eq_true h, h]; rfl
  · rw [decide_eq_false h, decide_eq_true (by omega)]; rfl
theorem len1 (l : List V) : (!decide ((1 : Int) < (l.length : Int))) = decide ((l.length : Int) ≤ 1) := by
  by_cases h : (l.length : Int) ≤ 1
  · rw [decide_eq_true h, decide_eq_false (by omega)]; rfl
  · rw [decide_eq_false h, decide_eq_true (by omega)]; rfl
theorem len400 (l : List V) (h : l.length ≤ 400) : (!decide ((400 : Int) < (l.length : Int))) = true := by
  rw [decide_eq_false (by omega)]; rfl
theorem okB_eq (n : Int) (t : ByteArray) (m : Nat) (has : ByteArray) (most : Int) (c1 c2 : Bool) (h1 : (has.data.toList.any fun b => decide ((110 : UInt8) = b)) = c1) (h2 : (has.data.toList.any fun b => decide ((116 : UInt8) = b)) = c2) : okB n t m has most = ((decide (n = 0) || c1) && (decide (t = ⟨#[]⟩) || c2) && !decide (most < (m : Int))) := by
  unfold okB
  rw [h1, h2]
  cases decide (n = 0) <;> cases decide (t = ⟨#[]⟩) <;> cases c1 <;> cases c2 <;> rfl
section
variable (n : Int) (t : ByteArray) (l : List V)
theorem ok1 : okB n t l.length ⟨#[]⟩ 0 = formN (.mk 1 n t l) := by rw [okB_eq _ _ _ _ _ false false (by decide) (by decide), len0]; simp [formN]
theorem ok2 : okB n t l.length ⟨#[110]⟩ 0 = formN (.mk 2 n t l) := by rw [okB_eq _ _ _ _ _ true false (by decide) (by decide), len0]; simp [formN]
theorem ok6 : okB n t l.length ⟨#[110]⟩ 0 = formN (.mk 6 n t l) := by rw [okB_eq _ _ _ _ _ true false (by decide) (by decide), len0]; simp [formN]
theorem ok3 (e : decide (n = 1) = false) : okB n t l.length ⟨#[]⟩ 0 = formN (.mk 3 n t l) := by rw [okB_eq _ _ _ _ _ false false (by decide) (by decide), len0]; have e' := of_decide_eq_false e; simp [formN, e']
theorem ok3' (e : decide (n = 1) = true) : okB n t l.length ⟨#[110]⟩ 0 = formN (.mk 3 n t l) := by rw [okB_eq _ _ _ _ _ true false (by decide) (by decide), len0]; obtain rfl := of_decide_eq_true e; simp [formN]
theorem ok4 : okB n t l.length ⟨#[116]⟩ 0 = formN (.mk 4 n t l) := by rw [okB_eq _ _ _ _ _ false true (by decide) (by decide), len0]; simp [formN]
theorem ok5 (hl : l.length ≤ 400) (e : decide (t = ⟨#[]⟩) = false) : okB n t l.length ⟨#[116]⟩ 400 = formN (.mk 5 n t l) := by rw [okB_eq _ _ _ _ _ false true (by decide) (by decide), len400 _ hl]; have e' := of_decide_eq_false e; simp [formN, e']
theorem ok7 (hl : l.length ≤ 400) : okB n t l.length ⟨#[110, 116]⟩ 400 = formN (.mk 7 n t l) := by rw [okB_eq _ _ _ _ _ true true (by decide) (by decide), len400 _ hl]; simp [formN]
theorem ok8 : okB n t l.length ⟨#[]⟩ 1 = formN (.mk 8 n t l) := by rw [okB_eq _ _ _ _ _ false false (by decide) (by decide), len1]; simp [formN]
end
end Go.Proofs.Ythgackidonocpaa
