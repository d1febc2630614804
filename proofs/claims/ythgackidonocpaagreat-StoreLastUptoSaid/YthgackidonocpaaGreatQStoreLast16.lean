/-
  Texts of this proof, part 16: Tuw Tuf.
-/
import Derived.Test.YthgackidonocpaaGreatQStoreLast15
import Derived.MapKept
namespace Go.Proofs.YthgackidonocpaaGreat
open Go.RowKit
theorem shr8 (n : Int) {m : Nat} (h : m ≤ 7) : n.fdiv (2 ^ (min ((8 * m : Nat) : Int).toNat IntKind.i64.bits)) = n / 256 ^ m := by
  have e1 : IntKind.i64.bits = 64 := rfl
  rw [e1, Int.toNat_natCast, Nat.min_eq_left (by omega), Int.fdiv_eq_ediv_of_nonneg _ (Int.pow_nonneg (by omega)), Int.pow_mul]
  rfl
set_option maxRecDepth 100000 in
set_option maxHeartbeats 4000000 in
theorem number_ag (v : Value) (b : List UInt8) (n : Int) (K : Nat) (hK : K ≤ 8) (hb : b.length ≤ 100000000000000) : AG Tryz.prog 40 [.own 0 v, .c (.lit (.int .i64 n)), .c (.lit (.int .i64 (K : Int)))] [.row v 5 1 b.length (byts b)] (Grew 5 (b ++ numB n K)) := by
  refine ag_enter 1 tok Tryz.func40 Tryz.ntmps40 Tryz.results40 rfl (by kernel_rfl) rfl fun F => ?_
  repeat (first | refine gG ?_ | refine zAp (fun _ => ?_))
  refine lo_sub rfl rfl (r := (K : Int) - 1) (by rw [IntWalk.i64_in _ (by omega)]) ?_
  repeat (first | refine gG ?_ | refine zAp (fun _ => ?_))
  refine x_loop [0, 7, 10, 11, 12, 13, 14, 15, 16, 17, 18, 19, 20, 21] (fun y : Nat × List UInt8 × Value => [(7, .c (.lit (.int .i64 ((y.1 : Int) - 1)))), (0, .own 0 y.2.2)]) (fun y => [.row y.2.2 5 1 y.2.1.length (byts y.2.1)]) (fun y => y.1 ≤ K ∧ y.2.1 ++ numB n y.1 = b ++ numB n K ∧ y.2.1.length + y.1 = b.length + K) (fun y => y.1) (K, b, v) ⟨Nat.le_refl _, rfl, rfl⟩ ⟨rfl, rfl, trivial⟩ rfl ?_
  rintro ⟨m, l, u⟩ ⟨h1, h2, h3⟩
  dsimp only at h1 h2 h3 ⊢
  rcases m with _ | m
  · have d1 : decide ((0 : Int) ≤ ((0 : Nat) : Int) - 1) = false := by decide
    simp only [numB, List.append_nil] at h2
    repeat (first | refine gG ?_ | refine zAp (fun _ => ?_))
    refine zG ?_
    exact ⟨_, rfl, by rw [← h2]⟩
  · have d1 : decide ((0 : Int) ≤ ((m + 1 : Nat) : Int) - 1) = true := decide_eq_true (by omega)
    repeat (first | refine gG ?_ | refine zAp (fun _ => ?_))
    refine lo_mul rfl rfl (r := ((8 * m : Nat) : Int)) (by rw [IntWalk.i64_in _ (by omega)]; omega) ?_
    repeat (first | refine gG ?_ | refine zAp (fun _ => ?_))
    refine lo_shr rfl rfl (by omega) (shr8 n (by omega)) ?_
    repeat (first | refine gG ?_ | refine zAp (fun _ => ?_))
    refine lo_conv tok rfl rfl rfl rfl rfl ?_
    repeat (first | refine gG ?_ | refine zAp (fun _ => ?_))
    refine lo_sub rfl rfl (r := (m : Int) - 1) (by rw [IntWalk.i64_in _ (by omega)]; omega) ?_
    repeat (first | refine gG ?_ | refine zAp (fun _ => ?_))
    exact ⟨(m, l ++ [kb (n / 256 ^ m)], _), ⟨by simp only; omega, by rw [← h2]; simp [numB], by simp only [List.length_append, List.length_cons, List.length_nil]; omega⟩, by simp only; omega, x_wkd 1 ⟨rfl, rfl, trivial⟩ (by rw [byts_app, List.length_append, List.length_cons, List.length_nil, show byts [kb (n / 256 ^ m)] = [bytT (kb (n / 256 ^ m))] from rfl, kb_T]; rfl) (by repeat (first | exact ag_refl | refine ag_upd rfl ?_ | refine ag_at rfl rfl ?_))⟩
set_option maxRecDepth 100000 in
set_option maxHeartbeats 4000000 in
theorem part_ag (v : Value) (b x : List UInt8) (hb : b.length + x.length + 4 ≤ 100000000000000) : AG Tryz.prog 29 [.own 0 v, .c (bytRow x)] [.row v 5 1 b.length (byts b)] (Grew 5 (b ++ partB x)) := by
  have hc := number_ag v b (x.length : Int) 4 (by omega) (by omega)
  have hln : (b ++ numB (x.length : Int) 4).length = b.length + 4 := by rw [List.length_append, numB_len]
  have e0 : b ++ partB x = b ++ numB (x.length : Int) 4 ++ x := by simp only [partB, List.append_assoc]
  rw [e0]
  generalize b ++ numB (x.length : Int) 4 = b' at *
  refine ag_enter 1 tok Tryz.func29 Tryz.ntmps29 Tryz.results29 rfl (by kernel_rfl) rfl fun F => ?_
  repeat (first | refine gG ?_ | refine zN1 (fun hlen => ?_) | refine zN2 (fun hlen => ?_) | refine zAp (fun _ => ?_))
  refine zCallG [0] hc ?_
  rintro _ _ ⟨v', rfl, rfl⟩
  refine ⟨.own 0 v', _, re_own, rfl, rfl, ?_⟩
  repeat (first | refine gG ?_ | refine zN1 (fun hlen => ?_) | refine zN2 (fun hlen => ?_) | refine zAp (fun _ => ?_))
  refine zG ?_
  exact ⟨_, rfl, by rw [byts_app, List.length_append]⟩
theorem snoc_at {α : Type} {l : List α} {k : Nat} {a : α} (h : l[k]? = some a) : l.take (k + 1) = l.take k ++ [a] := by
  obtain ⟨h1, rfl⟩ := List.getElem?_eq_some_iff.1 h
  rw [List.take_succ_eq_append_getElem h1]
def byRow (ls : List (List UInt8)) : T := .row ls.length 1 (ls.map bytRow)
theorem any_snoc {α : Type} {p : α → Bool} {l : List α} {k : Nat} {a : α} (ha : l[k]? = some a) (h : (l.take k).any p = false) (h0 : p a = false) : (l.take (k + 1)).any p = false := by
  rw [snoc_at ha, List.any_append, h]
  simp [h0]
theorem any_at {α : Type} {p : α → Bool} {l : List α} {k : Nat} {a : α} (ha : l[k]? = some a) (h0 : p a = true) : l.any p = true := List.any_eq_true.2 ⟨a, List.mem_of_getElem? ha, h0⟩
set_option maxRecDepth 100000 in
set_option maxHeartbeats 4000000 in
theorem pack_af (ls : List (List UInt8)) (hb : (ls.flatMap pkOne).length ≤ 100000000000000) : AF Tryz.prog 69 [byRow ls] (Outs2 (if ls.any bigB = true then [] else ls.flatMap pkOne) (if ls.any bigB = true then 2 else 0)) := by
  refine af_enter tok Tryz.func69 Tryz.ntmps69 Tryz.results69 rfl (by kernel_rfl) rfl rfl fun F hX => ?_
  repeat (first | refine gG ?_ | refine zN1 (fun hlen => ?_) | refine zN2 (fun hlen => ?_) | refine zAp (fun _ => ?_))
  refine x_own 4 5 1 rfl rfl rfl rfl rfl ?_
  refine x_loop [2, 3, 4, 6, 9, 10, 11, 12, 13, 14, 15, 16, 17, 18, 19, 20, 21, 22, 23, 24, 25, 26, 27, 28, 29] (fun y : Nat × Value => [(9, .c (.lit (.int .i64 (y.1 : Nat)))), (4, .own 0 y.2)]) (fun y => [.row y.2 5 1 ((ls.take y.1).flatMap pkOne).length (byts ((ls.take y.1).flatMap pkOne))]) (fun y => y.1 ≤ ls.length ∧ (ls.take y.1).any bigB = false) (fun y => ls.length - y.1) (0, .slice none 0 0) ⟨Nat.zero_le _, rfl⟩ ⟨rfl, rfl, trivial⟩ rfl ?_
  rintro ⟨k, u⟩ ⟨hk, hz⟩
  dsimp only at hk hz ⊢
  repeat (first | refine gG ?_ | refine zN1 (fun hlen => ?_) | refine zN2 (fun hlen => ?_) | refine zAp (fun _ => ?_))
  refine x_cond rfl (fun h => ?_) (fun h => ?_)
  · have hk' : k < ls.length := by simpa using h
    obtain ⟨a, ha⟩ := nth hk'
    have hsn := any_snoc ha hz
    have hat := any_at (p := bigB) ha
    have hfl := flat_snoc' pkOne ha
    have hle := flat_take_le pkOne ls (k + 1)
    rw [hfl, List.length_append, pkOne_len] at hle
    have hbg : bigB a = decide ((65535 : Int) < (a.length : Int)) := rfl
    rw [hbg] at hsn hat
    repeat (first | refine gG ?_ | refine zN1 (fun hlen => ?_) | refine zN2 (fun hlen => ?_) | refine zAp (fun _ => ?_))
    refine zIx k hk' ?_
    repeat (first | refine gG ?_ | refine zN1 (fun hlen => ?_) | refine zN2 (fun hlen => ?_) | refine zAp (fun _ => ?_))
    refine zEl1 (map_at bytRow ha) ?_
    cases c1 : decide ((65535 : Int) < (a.length : Int))
    rotate_left
    · have hat := hat c1
      repeat (first | refine gG ?_ | refine zN1 (fun hlen => ?_) | refine zN2 (fun hlen => ?_) | refine zAp (fun _ => ?_))
      first | refine zR (ts := [bytRow [], .lit (.int .i64 2)]) ?_ | refine zQ (ts := [bytRow [], .lit (.int .i64 2)]) ?_
      rw [hat]; rfl
    have hsn := hsn c1
    have hal : a.length ≤ 65535 := by have := of_decide_eq_false c1; omega
    repeat (first | refine gG ?_ | refine zN1 (fun hlen => ?_) | refine zN2 (fun hlen => ?_) | refine zAp (fun _ => ?_))
    refine lo_shr rfl rfl (by omega) (r := (a.length : Int) / 256) (by rw [Int.fdiv_eq_ediv_of_nonneg _ (by decide)]; rfl) ?_
    repeat (first | refine gG ?_ | refine zN1 (fun hlen => ?_) | refine zN2 (fun hlen => ?_) | refine zAp (fun _ => ?_))
    refine lo_conv tok rfl rfl rfl rfl rfl ?_
    repeat (first | refine gG ?_ | refine zN1 (fun hlen => ?_) | refine zN2 (fun hlen => ?_) | refine zAp (fun _ => ?_))
    refine lo_conv tok rfl rfl rfl rfl rfl ?_
    repeat (first | refine gG ?_ | refine zN1 (fun hlen => ?_) | refine zN2 (fun hlen => ?_) | refine zAp (fun _ => ?_))
    exact ⟨(k + 1, _), ⟨hk', hsn⟩, by simp only; omega, x_wkd 1 ⟨rfl, rfl, trivial⟩ (by rw [hfl, pkOne]; simp only [byts_app, List.length_append, List.length_cons, List.length_nil, show byts [kb ((a.length : Int) / 256), kb (a.length : Int)] = [bytT (kb ((a.length : Int) / 256)), bytT (kb (a.length : Int))] from rfl, kb_T, ← List.append_assoc, ← Nat.add_assoc]; rfl) (by repeat (first | exact ag_refl | refine ag_upd rfl ?_ | refine ag_at rfl rfl ?_))⟩
  · have hk' : k = ls.length := by have : ¬ k < ls.length := by simpa using h
                                   omega
    subst hk'
    rw [List.take_length] at hz ⊢
    repeat (first | refine gG ?_ | refine zN1 (fun hlen => ?_) | refine zN2 (fun hlen => ?_) | refine zAp (fun _ => ?_))
    first | refine zR ?_ | refine zQ ?_
    rw [hz]; rfl
set_option maxRecDepth 100000 in
set_option maxHeartbeats 4000000 in
theorem packedL_af (ls : List Lt) (hs : ∀ l ∈ ls, l.tiny ∧ l.check = 0) (hl : ls.length ≤ 100) : AF Tryz.prog 42 [letRow ls] (Outs2 (if (ls.map Lt.bytes).any bigB = true then [] else (ls.map Lt.bytes).flatMap pkOne) (if (ls.map Lt.bytes).any bigB = true then 2 else 0)) := by
  have hbl := flat_le (fun x : Lt => pkOne x.bytes) 40000002 (l := ls) fun x hx => by rw [pkOne_len]; have := (hs x hx).1.2.2.1; omega
  have hbm : ls.length * 40000002 ≤ 100 * 40000002 := Nat.mul_le_mul_right _ hl
  have hp := pack_af (ls.map Lt.bytes) (by rw [flat_map]; omega)
  generalize hbo : (if (ls.map Lt.bytes).any bigB = true then [] else (ls.map Lt.bytes).flatMap pkOne) = bo at *
  generalize hbe : (if (ls.map Lt.bytes).any bigB = true then (2 : Int) else 0) = be at *
  refine af_enter tok Tryz.func42 Tryz.ntmps42 Tryz.results42 rfl (by kernel_rfl) rfl rfl fun F hX => ?_
  repeat (first | refine gG ?_ | refine zN1 (fun hlen => ?_) | refine zN2 (fun hlen => ?_) | refine zAl (fun _ => ?_) | refine zAp (fun _ => ?_))
  refine x_own 4 22 1 rfl rfl rfl rfl rfl ?_
  refine x_loop [2, 3, 4, 6, 7, 8, 11, 12, 13, 14, 15, 16, 17, 18, 19, 20, 21, 22, 23, 24, 25, 26, 27] (fun y : Nat × Value => [(11, .c (.lit (.int .i64 (y.1 : Nat)))), (4, .own 0 y.2)]) (fun y => [.row y.2 22 1 ((ls.take y.1).map Lt.bytes).length (((ls.take y.1).map Lt.bytes).map bytRow)]) (fun y => y.1 ≤ ls.length) (fun y => ls.length - y.1) (0, .slice none 0 0) (Nat.zero_le _) ⟨rfl, rfl, trivial⟩ rfl ?_
  rintro ⟨k, u⟩ hk
  dsimp only at hk ⊢
  repeat (first | refine gG ?_ | refine zN1 (fun hlen => ?_) | refine zN2 (fun hlen => ?_) | refine zAl (fun _ => ?_) | refine zAp (fun _ => ?_))
  refine x_cond rfl (fun h => ?_) (fun h => ?_)
  · have hk' : k < ls.length := by simpa using h
    obtain ⟨a, ha⟩ := nth hk'
    obtain ⟨ht, hck⟩ := hs a (List.mem_of_getElem? ha)
    have hw := letterW_af a ht.2.2.2
    have ho : a.out = a.bytes := by rw [Lt.out, if_pos hck]
    rw [ho, hck] at hw
    have hsn := snoc_at ha
    have hll : ((ls.take k).map Lt.bytes).length ≤ 100 := by simp; omega
    repeat (first | refine gG ?_ | refine zN1 (fun hlen => ?_) | refine zN2 (fun hlen => ?_) | refine zAl (fun _ => ?_) | refine zAp (fun _ => ?_))
    refine zIx (k) (hk') ?_
    repeat (first | refine gG ?_ | refine zN1 (fun hlen => ?_) | refine zN2 (fun hlen => ?_) | refine zAl (fun _ => ?_) | refine zAp (fun _ => ?_))
    refine zEl (flat_at Lt.ts 9 Lt.ts_len ha) (Lt.ts_len a) ?_
    have hsn' : (ls.take (k + 1)).map Lt.bytes = (ls.take k).map Lt.bytes ++ [a.bytes] := by rw [hsn, List.map_append]; rfl
    generalize a.bytes = ab at *
    obtain ⟨ka, fa, ta, na, sa, ⟨kv, nv, tv, lv⟩⟩ := a
    repeat (first | refine gG ?_ | refine zN1 (fun hlen => ?_) | refine zN2 (fun hlen => ?_) | refine zAl (fun _ => ?_) | refine zAp (fun _ => ?_))
    refine zCall (hw) ?_
    rintro _ rfl
    repeat (first | refine gG ?_ | refine zN1 (fun hlen => ?_) | refine zN2 (fun hlen => ?_) | refine zAl (fun _ => ?_) | refine zAp (fun _ => ?_))
    exact ⟨(k + 1, _), hk', by simp only; omega, x_wkd 1 ⟨rfl, rfl, trivial⟩ (by simp only [hsn', List.map_append, List.map_cons, List.map_nil, List.length_append, List.length_cons, List.length_nil]; rfl) (by repeat (first | exact ag_refl | refine ag_upd rfl ?_ | refine ag_at rfl rfl ?_))⟩
  · have hk' : k = ls.length := by have : ¬ k < ls.length := by simpa using h
                                   omega
    subst hk'
    rw [List.take_length]
    refine x_fz 4 rfl rfl rfl rfl ?_
    repeat (first | refine gG ?_ | refine zN1 (fun hlen => ?_) | refine zN2 (fun hlen => ?_) | refine zAl (fun _ => ?_) | refine zAp (fun _ => ?_))
    refine zCall (hp) ?_
    rintro _ rfl
    repeat (first | refine gG ?_ | refine zN1 (fun hlen => ?_) | refine zN2 (fun hlen => ?_) | refine zAl (fun _ => ?_) | refine zAp (fun _ => ?_))
    first | refine zR ?_ | refine zQ ?_
    rfl
theorem Snp.err_ne {s : Snp} (h : ¬ s.check = 0) : s.out = [] ∧ s.err = s.check := by
  unfold Snp.out Snp.err
  rw [if_neg h, if_neg h]
  exact ⟨rfl, rfl⟩
theorem Snp.err_eq {s : Snp} (h : s.check = 0) : s.out = (if s.ways.any Wy.big = true then [] else s.bytes) ∧ s.err = if s.ways.any Wy.big = true then 2 else 0 := by
  unfold Snp.out Snp.err
  rw [if_pos h, if_pos h]
  exact ⟨rfl, rfl⟩
theorem wayText_T (fr to : Int) (x : List UInt8) : T.row (2 + x.length) 1 ([T.lit (.int .u8 (IntKind.u8.wrap fr)), T.lit (.int .u8 (IntKind.u8.wrap to))] ++ byts x) = bytRow ([kb fr, kb to] ++ x) := by
  rw [← kb_T, ← kb_T]
  simp only [bytRow, byts_app, List.length_append, List.length_cons, List.length_nil]
  rfl
set_option maxRecDepth 100000 in
set_option maxHeartbeats 4000000 in
theorem storeBytes_af (s : Snp) (hs : s.Small) : AF Tryz.prog 14 [s.t] (Outs2 s.out s.err) := by
  have hc := checkSnap_af s
  by_cases hyes : s.check = 0
  rotate_left
  · obtain ⟨e1, e2⟩ := Snp.err_ne hyes
    rw [e1, e2]
    have d1 : decide (s.check = 0) = false := decide_eq_false hyes
    generalize s.check = e at *
    obtain ⟨tm, l, ws⟩ := s
    refine af_enter tok Tryz.func14 Tryz.ntmps14 Tryz.results14 rfl (by kernel_rfl) rfl rfl fun F hX => ?_
    repeat (first | refine gG ?_ | refine zN1 (fun hlen => ?_) | refine zN2 (fun hlen => ?_) | refine zAl (fun _ => ?_) | refine zBf ?_ | refine zAp (fun _ => ?_))
    refine zCall (hc) ?_
    rintro _ rfl
    repeat (first | refine gG ?_ | refine zN1 (fun hlen => ?_) | refine zN2 (fun hlen => ?_) | refine zAl (fun _ => ?_) | refine zBx (fun _ => ?_) | refine zAp (fun _ => ?_))
    first | refine zR (ts := [bytRow [], .lit (.int .i64 e)]) ?_ | refine zQ (ts := [bytRow [], .lit (.int .i64 e)]) ?_
    rfl
  obtain ⟨e1, e2⟩ := Snp.err_eq hyes
  rw [e1, e2]
  have hR := Snp.right hyes
  have hbl := Snp.bytes_le hs hR
  rw [hyes] at hc
  clear e1 e2
  obtain ⟨tm, l, ws⟩ := s
  obtain ⟨r1, r2, r3, r4, r5⟩ := hR
  obtain ⟨s1, s2, s3⟩ := hs
  dsimp only at r1 r2 r3 r4 r5 s1 s2 s3 ⊢
  have hbe : (Snp.mk tm l ws).bytes = numB tm 8 ++ [kb (l.length : Int), kb (ws.length : Int)] ++ l.flatMap parPart ++ ws.flatMap wayPart := rfl
  rw [hbe] at hbl ⊢
  simp only [List.length_append, List.length_cons, List.length_nil, numB_len] at hbl
  have hn := ag_nil (Nat.succ_pos 0) (number_ag (.slice none 0 0) [] tm 8 (by omega) (by simp only [List.length_nil]; omega))
  rw [List.nil_append] at hn
  have hnl := numB_len tm 8
  generalize numB tm 8 = hd at *
  have hhd : (hd ++ [kb (l.length : Int), kb (ws.length : Int)]).length = hd.length + 2 := by rw [List.length_append]; rfl
  have hhb : byts (hd ++ [kb (l.length : Int), kb (ws.length : Int)]) = byts hd ++ [T.lit (.int .u8 (IntKind.u8.wrap (l.length : Int))), T.lit (.int .u8 (IntKind.u8.wrap (ws.length : Int)))] := by rw [byts_app, ← kb_T, ← kb_T]; rfl
  generalize hd ++ [kb (l.length : Int), kb (ws.length : Int)] = hd2 at *
  refine af_enter tok Tryz.func14 Tryz.ntmps14 Tryz.results14 rfl (by kernel_rfl) rfl rfl fun F hX => ?_
  repeat (first | refine gG ?_ | refine zN1 (fun hlen => ?_) | refine zN2 (fun hlen => ?_) | refine zAl (fun _ => ?_) | refine zBf ?_ | refine zAp (fun _ => ?_))
  refine zCall (hc) ?_
  rintro _ rfl
  repeat (first | refine gG ?_ | refine zN1 (fun hlen => ?_) | refine zN2 (fun hlen => ?_) | refine zAl (fun _ => ?_) | refine zBx (fun _ => ?_) | refine zAp (fun _ => ?_))
  refine ac_draw [0, 0, 2, 0, 0, 0, 0, 0, 0, 0, 0, 0, 2, 0] [0, 1, 3, 4, 5, 6, 7, 8, 9, 10, 11, 2, 12, 13] (by kernel_rfl) (by kernel_rfl) ?_
  refine gW ?_
  apply w_p; (focus exact rfl); (focus exact rfl); focus (intro _; (refine lo_conv tok rfl rfl rfl rfl rfl ?_); exact det_refl)
  refine gW ?_
  apply w_p; (focus exact rfl); (focus exact rfl); focus (intro _; (refine lo_conv tok rfl rfl rfl rfl rfl ?_); exact det_refl)
  refine gW ?_
  apply w_l; (focus exact rfl); (focus exact rfl); (refine zCallG [] hn ?_; rintro _ _ ⟨v', rfl, rfl⟩; refine ⟨.own 0 v', _, re_own, rfl, rfl, ?_⟩)
  apply w_l; (focus exact rfl); (focus exact rfl); (first | (refine zkL ?_; first | refine zL1 ?_ | refine zL2 ?_ | refine zL3 ?_ | refine zLp ?_) | refine zM ?_ | (refine zkF ?_; first | refine zF1 ?_ | refine zF2 ?_ | refine zF3 ?_) | refine zA ?_ | (refine zkB ?_; first | refine zC5 ?_ | refine zC6 ?_ | refine zC1 ?_ | refine zC2 ?_ | refine zC3 ?_ | refine zC4 ?_ | refine zS5 ?_ | refine zS6 ?_ | refine zS1 ?_ | refine zS2 ?_ | refine zS3 ?_ | refine zS4 ?_ | refine zInc ?_ | refine zQ1 ?_ | refine zQ2 ?_ | refine zQ3 ?_ | refine zQ4 ?_ | refine zQ5 ?_ | refine zQ6 ?_) | (refine zkI ?_; first | refine zN1 (fun hlen => ?_) | refine zN2 (fun hlen => ?_) | refine zN3 ?_ | refine zN4 ?_ | refine zAp (fun _ => ?_)) | refine zS ?_ | refine zAl (fun _ => ?_) | refine zBx (fun _ => ?_) | refine zPt ?_ | refine zPf ?_ | refine zE ?_ | refine zEA ?_ | refine zNot ?_ | refine zBd ?_ | refine zBs ?_ | refine zFn ?_ | refine zK1 ?_ | refine zK2 ?_)
  refine gW ?_
  refine w_nil ?_
  repeat (first | refine gG ?_ | refine zN1 (fun hlen => ?_) | refine zN2 (fun hlen => ?_) | refine zAl (fun _ => ?_) | refine zBx (fun _ => ?_) | refine zAp (fun _ => ?_))
  refine x_loop [2, 3, 5, 7, 8, 9, 35, 36, 37, 38, 39, 40, 41, 42, 43, 44, 45, 46, 47, 48, 49, 50] (fun y : Nat × Value => [(35, .c (.lit (.int .i64 (y.1 : Nat)))), (5, .own 0 y.2)]) (fun y => [.row y.2 5 1 (hd2 ++ (l.take y.1).flatMap parPart).length (byts (hd2 ++ (l.take y.1).flatMap parPart))]) (fun y => y.1 ≤ l.length) (fun y => l.length - y.1) (0, _) (Nat.zero_le _) ⟨rfl, rfl, trivial⟩ (by simp only [List.take_zero, List.flatMap_nil, List.append_nil, hhb, hhd] <;> rfl) ?_
  rintro ⟨k, u⟩ hk
  dsimp only at hk ⊢
  repeat (first | refine gG ?_ | refine zN1 (fun hlen => ?_) | refine zN2 (fun hlen => ?_) | refine zAl (fun _ => ?_) | refine zBx (fun _ => ?_) | refine zAp (fun _ => ?_))
  refine x_cond rfl (fun h => ?_) (fun h => ?_)
  · have hk' : k < l.length := by simpa using h
    obtain ⟨a, ha⟩ := nth hk'
    have hck := r4 a (List.mem_of_getElem? ha)
    have hw := parcelW_af a (s1 a (List.mem_of_getElem? ha)).1
    have ho : a.out = a.bytes := by rw [Par.out, if_pos hck]
    rw [ho, hck] at hw
    have hfl := flat_snoc' parPart ha
    have hle := flat_take_le parPart l (k + 1)
    rw [hfl, List.length_append, parPart, partB_len] at hle
    have hpa := fun v => part_ag v (hd2 ++ (l.take k).flatMap parPart) a.bytes (by rw [List.length_append]; omega)
    have hpp : parPart a = partB a.bytes := rfl
    rw [hpp] at hfl
    generalize a.bytes = ab at *
    repeat (first | refine gG ?_ | refine zN1 (fun hlen => ?_) | refine zN2 (fun hlen => ?_) | refine zAl (fun _ => ?_) | refine zBx (fun _ => ?_) | refine zAp (fun _ => ?_))
    refine zIx (k) (hk') ?_
    repeat (first | refine gG ?_ | refine zN1 (fun hlen => ?_) | refine zN2 (fun hlen => ?_) | refine zAl (fun _ => ?_) | refine zBx (fun _ => ?_) | refine zAp (fun _ => ?_))
    refine zEl (flat_at Par.ts 8 Par.ts_len ha) (Par.ts_len a) ?_
    obtain ⟨rf, ⟨ac, st, ip⟩, bx, tk, wt, lk⟩ := a
    repeat (first | refine gG ?_ | refine zN1 (fun hlen => ?_) | refine zN2 (fun hlen => ?_) | refine zAl (fun _ => ?_) | refine zBx (fun _ => ?_) | refine zAp (fun _ => ?_))
    refine zCall (hw) ?_
    rintro _ rfl
    repeat (first | refine gG ?_ | refine zN1 (fun hlen => ?_) | refine zN2 (fun hlen => ?_) | refine zAl (fun _ => ?_) | refine zBx (fun _ => ?_) | refine zAp (fun _ => ?_))
    refine zCallG [0] (hpa _) ?_
    rintro _ _ ⟨v', rfl, rfl⟩
    refine ⟨.own 0 v', _, re_own, rfl, rfl, ?_⟩
    repeat (first | refine gG ?_ | refine zN1 (fun hlen => ?_) | refine zN2 (fun hlen => ?_) | refine zAl (fun _ => ?_) | refine zBx (fun _ => ?_) | refine zAp (fun _ => ?_))
    exact ⟨(k + 1, v'), hk', by simp only; omega, x_wkd 1 ⟨rfl, rfl, trivial⟩ (by simp only [hfl, List.append_assoc]; rfl) (by repeat (first | exact ag_refl | refine ag_upd rfl ?_ | refine ag_at rfl rfl ?_))⟩
  have hk' : k = l.length := by have : ¬ k < l.length := by simpa using h
                                omega
  subst hk'
  rw [List.take_length]
  have hh3 : (hd2 ++ l.flatMap parPart).length = hd2.length + (l.flatMap parPart).length := List.length_append
  generalize hd2 ++ l.flatMap parPart = hd3 at *
  repeat (first | refine gG ?_ | refine zN1 (fun hlen => ?_) | refine zN2 (fun hlen => ?_) | refine zAl (fun _ => ?_) | refine zBx (fun _ => ?_) | refine zAp (fun _ => ?_))
  refine x_loop [2, 3, 5, 11, 12, 13, 54, 55, 56, 57, 58, 59, 60, 61, 62, 63, 64, 65, 66, 67, 68, 69, 70, 71, 72, 73, 74, 75, 76, 77, 78] (fun y : Nat × Value => [(54, .c (.lit (.int .i64 (y.1 : Nat)))), (5, .own 0 y.2)]) (fun y => [.row y.2 5 1 (hd3 ++ (ws.take y.1).flatMap wayPart).length (byts (hd3 ++ (ws.take y.1).flatMap wayPart))]) (fun y => y.1 ≤ ws.length ∧ (ws.take y.1).any Wy.big = false) (fun y => ws.length - y.1) (0, _) ⟨Nat.zero_le _, rfl⟩ ⟨rfl, rfl, trivial⟩ (by simp only [List.take_zero, List.flatMap_nil, List.append_nil] <;> rfl) ?_
  rintro ⟨k, u2⟩ ⟨hk, hz⟩
  dsimp only at hk hz ⊢
  repeat (first | refine gG ?_ | refine zN1 (fun hlen => ?_) | refine zN2 (fun hlen => ?_) | refine zAl (fun _ => ?_) | refine zBx (fun _ => ?_) | refine zAp (fun _ => ?_))
  refine x_cond rfl (fun h => ?_) (fun h => ?_)
  rotate_left
  · have hk' : k = ws.length := by have : ¬ k < ws.length := by simpa using h
                                   omega
    subst hk'
    rw [List.take_length] at hz ⊢
    repeat (first | refine gG ?_ | refine zN1 (fun hlen => ?_) | refine zN2 (fun hlen => ?_) | refine zAl (fun _ => ?_) | refine zBx (fun _ => ?_) | refine zAp (fun _ => ?_))
    first | refine zR ?_ | refine zQ ?_
    rw [hz]; rfl
  have hk' : k < ws.length := by simpa using h
  obtain ⟨a, ha⟩ := nth hk'
  obtain ⟨q1, q2, q3⟩ := r5 a (List.mem_of_getElem? ha)
  have hti := s2 a (List.mem_of_getElem? ha)
  have hpk := packedL_af a.lets (fun x hx => ⟨hti x hx, q3 x hx⟩) q2
  have hwt := wayText_le q2 hti
  have hsn := any_snoc ha hz
  have hat := any_at (p := Wy.big) ha
  have hbg : a.big = (a.lets.map Lt.bytes).any bigB := rfl
  rw [hbg] at hsn hat
  have hfl := flat_snoc' wayPart ha
  have hle := flat_take_le wayPart ws (k + 1)
  rw [hfl, List.length_append, wayPart, partB_len] at hle
  have hpa := fun v => part_ag v (hd3 ++ (ws.take k).flatMap wayPart) (wayText a) (by rw [List.length_append]; omega)
  have hpp : wayPart a = partB (wayText a) := rfl
  rw [hpp] at hfl
  have htx : wayText a = [kb a.frm, kb a.to] ++ (a.lets.map Lt.bytes).flatMap pkOne := rfl
  have htl : ((a.lets.map Lt.bytes).flatMap pkOne).length ≤ 4000000202 := by rw [htx, List.length_append] at hwt; omega
  generalize (a.lets.map Lt.bytes).flatMap pkOne = px at *
  generalize (a.lets.map Lt.bytes).any bigB = bg at *
  generalize wayText a = wx at *
  repeat (first | refine gG ?_ | refine zN1 (fun hlen => ?_) | refine zN2 (fun hlen => ?_) | refine zAl (fun _ => ?_) | refine zBx (fun _ => ?_) | refine zAp (fun _ => ?_))
  refine zIx (k) (hk') ?_
  repeat (first | refine gG ?_ | refine zN1 (fun hlen => ?_) | refine zN2 (fun hlen => ?_) | refine zAl (fun _ => ?_) | refine zBx (fun _ => ?_) | refine zAp (fun _ => ?_))
  refine zEl (flat_at Wy.ts 3 Wy.ts_len ha) (Wy.ts_len a) ?_
  obtain ⟨fr, to, ls⟩ := a
  dsimp only at htx hpk
  have htt := wayText_T fr to px
  rw [← htx] at htt
  cases bg
  rotate_left
  · have hat := hat rfl
    repeat (first | refine gG ?_ | refine zN1 (fun hlen => ?_) | refine zN2 (fun hlen => ?_) | refine zAl (fun _ => ?_) | refine zBx (fun _ => ?_) | refine zAp (fun _ => ?_))
    refine zCall (hpk) ?_
    rintro _ rfl
    repeat (first | refine gG ?_ | refine zN1 (fun hlen => ?_) | refine zN2 (fun hlen => ?_) | refine zAl (fun _ => ?_) | refine zBx (fun _ => ?_) | refine zAp (fun _ => ?_))
    first | refine zR (ts := [bytRow [], .lit (.int .i64 2)]) ?_ | refine zQ (ts := [bytRow [], .lit (.int .i64 2)]) ?_
    rw [hat]; rfl
  have hsn := hsn rfl
  simp only [Bool.false_eq_true, if_false] at hpk
  repeat (first | refine gG ?_ | refine zN1 (fun hlen => ?_) | refine zN2 (fun hlen => ?_) | refine zAl (fun _ => ?_) | refine zBx (fun _ => ?_) | refine zAp (fun _ => ?_))
  refine zCall (hpk) ?_
  rintro _ rfl
  repeat (first | refine gG ?_ | refine zN1 (fun hlen => ?_) | refine zN2 (fun hlen => ?_) | refine zAl (fun _ => ?_) | refine zBx (fun _ => ?_) | refine zAp (fun _ => ?_))
  refine lo_conv tok rfl rfl rfl rfl rfl ?_
  repeat (first | refine gG ?_ | refine zN1 (fun hlen => ?_) | refine zN2 (fun hlen => ?_) | refine zAl (fun _ => ?_) | refine zBx (fun _ => ?_) | refine zAp (fun _ => ?_))
  refine lo_conv tok rfl rfl rfl rfl rfl ?_
  repeat (first | refine gX ?_ | refine zN1 (fun hlen => ?_) | refine zN2 (fun hlen => ?_) | refine zAl (fun _ => ?_) | refine zBx (fun _ => ?_) | refine zAp (fun _ => ?_))
  refine zBo (fun _ => ?_)
  refine zOp ?_
  refine zM ?_
  refine zOp ?_
  refine zAp (fun _ => ?_)
  refine al_fze 76 (bytRow wx) htt ?_
  repeat (first | refine gG ?_ | refine zN1 (fun hlen => ?_) | refine zN2 (fun hlen => ?_) | refine zAl (fun _ => ?_) | refine zBx (fun _ => ?_) | refine zAp (fun _ => ?_))
  refine zCallG [0] (hpa _) ?_
  rintro _ _ ⟨v', rfl, rfl⟩
  refine ⟨.own 0 v', _, re_own, rfl, rfl, ?_⟩
  repeat (first | refine gG ?_ | refine zN1 (fun hlen => ?_) | refine zN2 (fun hlen => ?_) | refine zAl (fun _ => ?_) | refine zBx (fun _ => ?_) | refine zAp (fun _ => ?_))
  exact ⟨(k + 1, v'), ⟨hk', hsn⟩, by simp only; omega, x_wkd 1 ⟨rfl, rfl, trivial⟩ (by simp only [hfl, List.append_assoc]; rfl) (by repeat (first | exact ag_refl | refine ag_upd rfl ?_ | refine ag_at rfl rfl ?_))⟩
end Go.Proofs.YthgackidonocpaaGreat
namespace Go.Proofs.YthgackidonocpaaGreat
open Go.RowKit
theorem isN_eq (n : Int) : (!isN n) = (decide (n < 1) || decide (8 < n)) := by
  unfold isN
  by_cases h1 : n < 1
  · rw [decide_eq_true h1, decide_eq_false (show ¬ 1 ≤ n by omega)]; rfl
  · rw [decide_eq_false h1, decide_eq_true (show 1 ≤ n by omega)]
    by_cases h2 : 8 < n
    · rw [decide_eq_true h2, decide_eq_false (show ¬ n ≤ 8 by omega)]; rfl
    · rw [decide_eq_false h2, decide_eq_true (show n ≤ 8 by omega)]; rfl
theorem bad_eq (fr to : Int) : ((!isN fr || !isN to) || decide (fr = to)) = (decide (fr < 1) || decide (8 < fr) || decide (to < 1) || decide (8 < to) || decide (fr = to)) := by
  rw [isN_eq, isN_eq]
  simp only [Bool.or_assoc]
set_option maxRecDepth 100000 in
set_option maxHeartbeats 4000000 in
theorem snapFault_af (s : Snp) (hsm : s.Small) : AF Tryz.prog 31 [s.t] (· = .lit (.int .i64 s.check)) := by
  have k2 := @Snp.check_2 s
  have k1 := @Snp.check_1 s
  have kp := @Snp.check_p s
  have kw := @Snp.check_w s
  obtain ⟨s1, s2, s3⟩ := hsm
  obtain ⟨tm, l, ws⟩ := s
  dsimp only at k2 k1 kp kw s1 s2
  clear s3
  generalize (Snp.mk tm l ws).check = ck at *
  refine af_enter tok Tryz.func31 Tryz.ntmps31 Tryz.results31 rfl (by kernel_rfl) rfl rfl fun F hX => ?_
  cases d1 : decide ((100 : Int) < (l.length : Int))
  rotate_left
  · repeat (first | refine gG ?_ | refine zN1 (fun hlen => ?_) | refine zN2 (fun hlen => ?_) | refine zAl (fun _ => ?_) | refine zBf ?_)
    first | refine zR ?_ | refine zQ ?_
    rw [k2 (by rw [d1]; rfl)]; rfl
  cases d2 : decide ((60 : Int) < (ws.length : Int))
  rotate_left
  · repeat (first | refine gG ?_ | refine zN1 (fun hlen => ?_) | refine zN2 (fun hlen => ?_) | refine zAl (fun _ => ?_) | refine zBf ?_)
    first | refine zR ?_ | refine zQ ?_
    rw [k2 (by rw [d1, d2]; rfl)]; rfl
  have j1 : (decide ((100 : Int) < (l.length : Int)) || decide ((60 : Int) < (ws.length : Int))) = false := by rw [d1, d2]; rfl
  cases d3 : decide (tm < 0)
  rotate_left
  · repeat (first | refine gG ?_ | refine zN1 (fun hlen => ?_) | refine zN2 (fun hlen => ?_) | refine zAl (fun _ => ?_) | refine zBf ?_)
    first | refine zR ?_ | refine zQ ?_
    rw [k1 j1 d3]; rfl
  have kp := kp j1 d3
  have kw := kw j1 d3
  clear k2 k1 j1
  repeat (first | refine gG ?_ | refine zN1 (fun hlen => ?_) | refine zN2 (fun hlen => ?_) | refine zAl (fun _ => ?_) | refine zBf ?_)
  refine x_loop [2, 3, 4, 5, 6, 28, 29, 30, 31, 32, 33, 34, 35, 36, 37, 38, 39, 40, 41, 42, 43, 44, 45, 46, 47, 48] (fun y : Nat × Int => [(28, .c (.lit (.int .i64 (y.1 : Nat)))), (3, .c (.lit (.int .i64 y.2)))]) (fun _ => []) (fun y => y.1 ≤ l.length ∧ (∀ x ∈ (prevs l).take y.1, parE x = 0) ∧ ((y.1 = 0 ∧ y.2 = 0) ∨ ∃ j b, y.1 = j + 1 ∧ l[j]? = some b ∧ y.2 = b.ref)) (fun y => l.length - y.1) (0, 0) ⟨Nat.zero_le _, by simp, .inl ⟨rfl, rfl⟩⟩ ⟨rfl, rfl, trivial⟩ rfl ?_
  rintro ⟨k, la⟩ ⟨hk, hz, hla⟩
  dsimp only at hk hz hla ⊢
  repeat (first | refine gG ?_ | refine zN1 (fun hlen => ?_) | refine zN2 (fun hlen => ?_) | refine zAl (fun _ => ?_) | refine zBx (fun _ => ?_))
  refine x_cond rfl (fun h => ?_) (fun h => ?_)
  · have hk' : k < l.length := by simpa using h
    obtain ⟨a, ha⟩ := nth hk'
    have hs := parcelFault_af a (s1 a (List.mem_of_getElem? ha)).1
    have pc := fun o => @parE_c a o
    have har : ∃ j b, k + 1 = j + 1 ∧ l[j]? = some b ∧ a.ref = b.ref := ⟨k, a, rfl, ha, rfl⟩
    rcases hla with ⟨rfl, rfl⟩ | ⟨j, b, rfl, hb, rfl⟩
    · have ho := prevs_at0 ha
      have he := errs_at parE hz ho
      have hsn := take_snoc (p := fun x => parE x = 0) ho hz
      have p0 : parE (a, none) = a.check := rfl
      repeat (first | refine gG ?_ | refine zN1 (fun hlen => ?_) | refine zN2 (fun hlen => ?_) | refine zAl (fun _ => ?_) | refine zBx (fun _ => ?_))
      refine zIx (0) (hk') ?_
      repeat (first | refine gG ?_ | refine zN1 (fun hlen => ?_) | refine zN2 (fun hlen => ?_) | refine zAl (fun _ => ?_) | refine zBx (fun _ => ?_))
      refine zEl (flat_at Par.ts 8 Par.ts_len ha) (Par.ts_len a) ?_
      generalize hca : a.check = ca at *
      obtain ⟨rf, ⟨ac, st, ip⟩, bx, tk, wt, lk⟩ := a
      repeat (first | refine gG ?_ | refine zN1 (fun hlen => ?_) | refine zN2 (fun hlen => ?_) | refine zAl (fun _ => ?_) | refine zBx (fun _ => ?_))
      refine zCall (hs) ?_
      rintro _ rfl
      cases c1 : decide (ca = 0)
      · have c0 : ¬ ca = 0 := of_decide_eq_false c1
        have e := pc none c0
        repeat (first | refine gG ?_ | refine zN1 (fun hlen => ?_) | refine zN2 (fun hlen => ?_) | refine zAl (fun _ => ?_) | refine zBx (fun _ => ?_))
        first | refine zR ?_ | refine zQ ?_
        rw [kp (by rw [he (by omega)]; omega), he (by omega), e]; rfl
      · have c0 : ca = 0 := of_decide_eq_true c1
        repeat (first | refine gG ?_ | refine zN1 (fun hlen => ?_) | refine zN2 (fun hlen => ?_) | refine zAl (fun _ => ?_) | refine zBx (fun _ => ?_))
        exact ⟨(1, rf), ⟨hk', hsn (by omega), .inr har⟩, by simp only; omega, x_wkd 0 ⟨rfl, rfl, trivial⟩ rfl (by repeat (first | exact ag_refl | refine ag_upd rfl ?_ | refine ag_at rfl rfl ?_))⟩
    · have dk : decide ((0 : Int) < ((j + 1 : Nat) : Int)) = true := decide_eq_true (by omega)
      have ho := prevs_at ha hb
      have he := errs_at parE hz ho
      have hsn := take_snoc (p := fun x => parE x = 0) ho hz
      have p21 := @parE_21 a b
      have p0 := @parE_0 a b
      repeat (first | refine gG ?_ | refine zN1 (fun hlen => ?_) | refine zN2 (fun hlen => ?_) | refine zAl (fun _ => ?_) | refine zBx (fun _ => ?_))
      refine zIx (j + 1) (hk') ?_
      repeat (first | refine gG ?_ | refine zN1 (fun hlen => ?_) | refine zN2 (fun hlen => ?_) | refine zAl (fun _ => ?_) | refine zBx (fun _ => ?_))
      refine zEl (flat_at Par.ts 8 Par.ts_len ha) (Par.ts_len a) ?_
      generalize hca : a.check = ca at *
      obtain ⟨rf, ⟨ac, st, ip⟩, bx, tk, wt, lk⟩ := a
      repeat (first | refine gG ?_ | refine zN1 (fun hlen => ?_) | refine zN2 (fun hlen => ?_) | refine zAl (fun _ => ?_) | refine zBx (fun _ => ?_))
      refine zCall (hs) ?_
      rintro _ rfl
      cases c1 : decide (ca = 0)
      · have c0 : ¬ ca = 0 := of_decide_eq_false c1
        have e := pc (some b) c0
        repeat (first | refine gG ?_ | refine zN1 (fun hlen => ?_) | refine zN2 (fun hlen => ?_) | refine zAl (fun _ => ?_) | refine zBx (fun _ => ?_))
        first | refine zR ?_ | refine zQ ?_
        rw [kp (by rw [he (by omega)]; omega), he (by omega), e]; rfl
      · have c0 : ca = 0 := of_decide_eq_true c1
        have p21 := p21 c0
        have p0 := p0 c0
        dsimp only at p21 p0
        cases c2 : decide (rf ≤ b.ref)
        · repeat (first | refine gG ?_ | refine zN1 (fun hlen => ?_) | refine zN2 (fun hlen => ?_) | refine zAl (fun _ => ?_) | refine zBx (fun _ => ?_))
          exact ⟨(j + 1 + 1, rf), ⟨hk', hsn (p0 c2), .inr har⟩, by simp only; omega, x_wkd 0 ⟨rfl, rfl, trivial⟩ rfl (by repeat (first | exact ag_refl | refine ag_upd rfl ?_ | refine ag_at rfl rfl ?_))⟩
        · have e := p21 c2
          repeat (first | refine gG ?_ | refine zN1 (fun hlen => ?_) | refine zN2 (fun hlen => ?_) | refine zAl (fun _ => ?_) | refine zBx (fun _ => ?_))
          first | refine zR ?_ | refine zQ ?_
          rw [kp (by rw [he (by omega)]; omega), he (by omega), e]; rfl
  have hk' : k = l.length := by have : ¬ k < l.length := by simpa using h
                                omega
  subst hk'
  rw [← prevs_len l, List.take_length] at hz
  have kw := kw (errs_all parE hz)
  clear kp hz hk h hla
  repeat (first | refine gG ?_ | refine zN1 (fun hlen => ?_) | refine zN2 (fun hlen => ?_) | refine zAl (fun _ => ?_) | refine zBx (fun _ => ?_))
  refine x_loop [2, 3, 8, 10, 11, 52, 53, 54, 55, 56, 57, 58, 59, 60, 61, 62, 63, 64, 65, 66, 67, 68, 69, 70, 71, 72, 73, 74, 75, 76, 77, 78, 79, 80, 81, 82, 83, 84, 85, 86, 87, 88, 89, 90, 91, 92, 93, 94, 95, 96, 97, 98, 99, 100, 101, 102, 103, 104, 105, 106, 107, 108, 109, 110, 111, 112] (fun y : Nat × Int => [(52, .c (.lit (.int .i64 (y.1 : Nat)))), (3, .c (.lit (.int .i64 y.2)))]) (fun _ => []) (fun y => y.1 ≤ ws.length ∧ (∀ x ∈ (prevs ws).take y.1, wayE x = 0) ∧ ((y.1 = 0 ∧ y.2 = -1) ∨ ∃ j q, y.1 = j + 1 ∧ ws[j]? = some q ∧ y.2 = 10 * q.frm + q.to ∧ q.badN = false)) (fun y => ws.length - y.1) (0, -1) ⟨Nat.zero_le _, by simp, .inl ⟨rfl, rfl⟩⟩ ⟨rfl, rfl, trivial⟩ rfl ?_
  rintro ⟨k, la⟩ ⟨hk, hz, hla⟩
  dsimp only at hk hz hla ⊢
  repeat (first | refine gG ?_ | refine zN1 (fun hlen => ?_) | refine zN2 (fun hlen => ?_) | refine zAl (fun _ => ?_) | refine zBx (fun _ => ?_))
  refine x_cond rfl (fun h => ?_) (fun h => ?_)
  rotate_left
  · have hk' : k = ws.length := by have : ¬ k < ws.length := by simpa using h
                                   omega
    subst hk'
    rw [← prevs_len ws, List.take_length] at hz
    rw [errs_all wayE hz] at kw
    repeat (first | refine gG ?_ | refine zN1 (fun hlen => ?_) | refine zN2 (fun hlen => ?_) | refine zAl (fun _ => ?_) | refine zBx (fun _ => ?_))
    first | refine zR ?_ | refine zQ ?_
    rw [kw]; rfl
  have hk' : k < ws.length := by simpa using h
  obtain ⟨a, ha⟩ := nth hk'
  have hst := s2 a (List.mem_of_getElem? ha)
  obtain ⟨o, ho, hord⟩ : ∃ o, (prevs ws)[k]? = some (a, o) ∧ (a.badN = false → ordM a.frm a.to o = decide (10 * a.frm + a.to ≤ la)) := by
    rcases hla with ⟨rfl, rfl⟩ | ⟨j, q, rfl, hq, rfl, hqb⟩
    · refine ⟨none, prevs_at0 ha, fun hb => ?_⟩
      obtain ⟨b1, b2⟩ := badN_in hb
      exact (decide_eq_false (by omega)).symm
    · exact ⟨some q, prevs_at ha hq, fun hb => ord_eq hb hqb⟩
  have hnx : a.badN = false → ∃ j q, k + 1 = j + 1 ∧ ws[j]? = some q ∧ 10 * a.frm + a.to = 10 * q.frm + q.to ∧ q.badN = false := fun hb => ⟨k, a, rfl, ha, rfl, hb⟩
  have he := errs_at wayE hz ho
  have hsn := take_snoc (p := fun x => wayE x = 0) ho hz
  obtain ⟨we, hWe⟩ : ∃ we, wayE (a, o) = we := ⟨_, rfl⟩
  have hbe : a.badN = (decide (a.frm < 1) || decide (8 < a.frm) || decide (a.to < 1) || decide (8 < a.to) || decide (a.frm = a.to)) := bad_eq a.frm a.to
  have w1 : a.badN = true → we = 1 := fun h => hWe ▸ wayE_1 h
  have w2 : a.badN = false → decide ((100 : Int) < (a.lets.length : Int)) = true → we = 2 := fun h h2 => hWe ▸ wayE_2 h h2
  have w21 : a.badN = false → decide ((100 : Int) < (a.lets.length : Int)) = false → ordM a.frm a.to o = true → we = 21 := fun h h2 h3 => hWe ▸ wayE_21 h h2 h3
  have wl : a.badN = false → decide ((100 : Int) < (a.lets.length : Int)) = false → ordM a.frm a.to o = false → we = errs (a.lets.map Lt.check) := fun h h2 h3 => hWe ▸ wayE_l h h2 h3
  have hbi : a.badN = false → (1 ≤ a.frm ∧ a.frm ≤ 8) ∧ (1 ≤ a.to ∧ a.to ≤ 8) := fun h => badN_in h
  rw [hWe] at he hsn
  clear hWe hla hz
  repeat (first | refine gG ?_ | refine zN1 (fun hlen => ?_) | refine zN2 (fun hlen => ?_) | refine zAl (fun _ => ?_) | refine zBx (fun _ => ?_))
  refine zIx (k) (hk') ?_
  repeat (first | refine gG ?_ | refine zN1 (fun hlen => ?_) | refine zN2 (fun hlen => ?_) | refine zAl (fun _ => ?_) | refine zBx (fun _ => ?_))
  refine zEl (flat_at Wy.ts 3 Wy.ts_len ha) (Wy.ts_len a) ?_
  generalize a.badN = bn at *
  obtain ⟨fr, to, ls⟩ := a
  dsimp only at w1 w2 w21 wl hbi hbe hord hnx hst
  cases n1 : decide (fr < 1)
  rotate_left
  · have w1 := w1 (by rw [hbe, n1]; simp)
    repeat (first | refine gG ?_ | refine zN1 (fun hlen => ?_) | refine zN2 (fun hlen => ?_) | refine zAl (fun _ => ?_) | refine zBx (fun _ => ?_))
    first | refine zR ?_ | refine zQ ?_
    rw [kw, he (by omega), w1]; rfl
  cases n2 : decide (8 < fr)
  rotate_left
  · have w1 := w1 (by rw [hbe, n1, n2]; simp)
    repeat (first | refine gG ?_ | refine zN1 (fun hlen => ?_) | refine zN2 (fun hlen => ?_) | refine zAl (fun _ => ?_) | refine zBx (fun _ => ?_))
    first | refine zR ?_ | refine zQ ?_
    rw [kw, he (by omega), w1]; rfl
  cases n3 : decide (to < 1)
  rotate_left
  · have w1 := w1 (by rw [hbe, n1, n2, n3]; simp)
    repeat (first | refine gG ?_ | refine zN1 (fun hlen => ?_) | refine zN2 (fun hlen => ?_) | refine zAl (fun _ => ?_) | refine zBx (fun _ => ?_))
    first | refine zR ?_ | refine zQ ?_
    rw [kw, he (by omega), w1]; rfl
  cases n4 : decide (8 < to)
  rotate_left
  · have w1 := w1 (by rw [hbe, n1, n2, n3, n4]; simp)
    repeat (first | refine gG ?_ | refine zN1 (fun hlen => ?_) | refine zN2 (fun hlen => ?_) | refine zAl (fun _ => ?_) | refine zBx (fun _ => ?_))
    first | refine zR ?_ | refine zQ ?_
    rw [kw, he (by omega), w1]; rfl
  cases n5 : decide (fr = to)
  rotate_left
  · have w1 := w1 (by rw [hbe, n1, n2, n3, n4, n5]; simp)
    repeat (first | refine gG ?_ | refine zN1 (fun hlen => ?_) | refine zN2 (fun hlen => ?_) | refine zAl (fun _ => ?_) | refine zBx (fun _ => ?_))
    first | refine zR ?_ | refine zQ ?_
    rw [kw, he (by omega), w1]; rfl
  have hb0 : bn = false := by rw [hbe, n1, n2, n3, n4, n5]; rfl
  have w2 := w2 hb0
  have w21 := w21 hb0
  have wl := wl hb0
  have hord := hord hb0
  have hnx := hnx hb0
  obtain ⟨hb1, hb2⟩ := hbi hb0
  cases d4 : decide ((100 : Int) < (ls.length : Int))
  rotate_left
  · have w2 := w2 d4
    repeat (first | refine gG ?_ | refine zN1 (fun hlen => ?_) | refine zN2 (fun hlen => ?_) | refine zAl (fun _ => ?_) | refine zBx (fun _ => ?_))
    first | refine zR ?_ | refine zQ ?_
    rw [kw, he (by omega), w2]; rfl
  have w21 := w21 d4
  have wl := wl d4
  rw [hord] at w21 wl
  clear hord hbi w1 w2 hbe
  repeat (first | refine gG ?_ | refine zN1 (fun hlen => ?_) | refine zN2 (fun hlen => ?_) | refine zAl (fun _ => ?_) | refine zBx (fun _ => ?_))
  refine lo_mul rfl rfl (r := 10 * fr) (by dsimp only; rw [IntWalk.i64_in _ (by omega)]) ?_
  repeat (first | refine gG ?_ | refine zN1 (fun hlen => ?_) | refine zN2 (fun hlen => ?_) | refine zAl (fun _ => ?_) | refine zBx (fun _ => ?_))
  refine lo_add rfl rfl (r := 10 * fr + to) (by dsimp only; rw [IntWalk.i64_in _ (by omega)]) ?_
  cases c3 : decide (10 * fr + to ≤ la)
  rotate_left
  · have w21 := w21 c3
    repeat (first | refine gG ?_ | refine zN1 (fun hlen => ?_) | refine zN2 (fun hlen => ?_) | refine zAl (fun _ => ?_) | refine zBx (fun _ => ?_))
    first | refine zR ?_ | refine zQ ?_
    rw [kw, he (by omega), w21]; rfl
  have wl := wl c3
  repeat (first | refine gG ?_ | refine zN1 (fun hlen => ?_) | refine zN2 (fun hlen => ?_) | refine zAl (fun _ => ?_) | refine zBx (fun _ => ?_))
  refine lo_mul rfl rfl (r := 10 * fr) (by dsimp only; rw [IntWalk.i64_in _ (by omega)]) ?_
  repeat (first | refine gG ?_ | refine zN1 (fun hlen => ?_) | refine zN2 (fun hlen => ?_) | refine zAl (fun _ => ?_) | refine zBx (fun _ => ?_))
  refine lo_add rfl rfl (r := 10 * fr + to) (by dsimp only; rw [IntWalk.i64_in _ (by omega)]) ?_
  repeat (first | refine gG ?_ | refine zN1 (fun hlen => ?_) | refine zN2 (fun hlen => ?_) | refine zAl (fun _ => ?_) | refine zBx (fun _ => ?_))
  rename_i bw _
  refine x_loop [2, 10, 11, 102, 103, 104, 105, 106, 107, 108, 109, 110, 111] (fun j : Nat => [(102, .c (.lit (.int .i64 j)))]) (fun _ => [.box bw 57 [.c (.lit (.int .i64 fr)), .c (.lit (.int .i64 to)), .c (letRow ls)]]) (fun j => j ≤ ls.length ∧ ∀ x ∈ ls.take j, Lt.check x = 0) (fun j => ls.length - j) 0 ⟨Nat.zero_le _, by simp⟩ ⟨rfl, trivial⟩ rfl ?_
  rintro j ⟨hj, hz3⟩
  repeat (first | refine gG ?_ | refine zN1 (fun hlen => ?_) | refine zN2 (fun hlen => ?_) | refine zAl (fun _ => ?_) | refine zBx (fun _ => ?_))
  refine x_cond rfl (fun h => ?_) (fun h => ?_)
  · have hj' : j < ls.length := by simpa using h
    obtain ⟨x, hx⟩ := nth hj'
    have hs : AF Tryz.prog 53 [x.t] (· = .lit (.int .i64 x.check)) := (by have h := letterFault_af x (hst x (List.mem_of_getElem? hx)).2.1; rw [Lt.fault_eq] at h; exact h)
    have he3 := errs_at Lt.check hz3 hx
    have hsn3 := take_snoc (p := fun x => Lt.check x = 0) hx hz3
    repeat (first | refine gG ?_ | refine zN1 (fun hlen => ?_) | refine zN2 (fun hlen => ?_) | refine zAl (fun _ => ?_) | refine zBx (fun _ => ?_))
    refine zIx (j) (hj') ?_
    repeat (first | refine gG ?_ | refine zN1 (fun hlen => ?_) | refine zN2 (fun hlen => ?_) | refine zAl (fun _ => ?_) | refine zBx (fun _ => ?_))
    refine zEl (flat_at Lt.ts 9 Lt.ts_len hx) (Lt.ts_len x) ?_
    generalize hca : x.check = ca at *
    obtain ⟨ka, fa, ta, na, sa, ⟨kv, nv, tv, lv⟩⟩ := x
    repeat (first | refine gG ?_ | refine zN1 (fun hlen => ?_) | refine zN2 (fun hlen => ?_) | refine zAl (fun _ => ?_) | refine zBx (fun _ => ?_))
    refine zCall (hs) ?_
    rintro _ rfl
    cases c2 : decide (ca = 0)
    · have c0 : ¬ ca = 0 := of_decide_eq_false c2
      have e3 := he3 c0
      repeat (first | refine gG ?_ | refine zN1 (fun hlen => ?_) | refine zN2 (fun hlen => ?_) | refine zAl (fun _ => ?_) | refine zBx (fun _ => ?_))
      first | refine zR ?_ | refine zQ ?_
      rw [kw, he (by omega), wl, e3]; rfl
    · have c0 : ca = 0 := of_decide_eq_true c2
      repeat (first | refine gG ?_ | refine zN1 (fun hlen => ?_) | refine zN2 (fun hlen => ?_) | refine zAl (fun _ => ?_) | refine zBx (fun _ => ?_))
      exact ⟨j + 1, ⟨hj', hsn3 c0⟩, by omega, x_wkd 1 ⟨rfl, trivial⟩ rfl (by repeat (first | exact ag_refl | refine ag_upd rfl ?_ | refine ag_at rfl rfl ?_))⟩
  · have hj' : j = ls.length := by have : ¬ j < ls.length := by simpa using h
                                   omega
    subst hj'
    rw [List.take_length] at hz3
    rw [errs_all Lt.check hz3] at wl
    repeat (first | refine gG ?_ | refine zN1 (fun hlen => ?_) | refine zN2 (fun hlen => ?_) | refine zAl (fun _ => ?_) | refine zBx (fun _ => ?_))
    exact ⟨(k + 1, 10 * fr + to), ⟨hk', hsn wl, .inr hnx⟩, by simp only; omega, x_wkd 0 ⟨rfl, rfl, trivial⟩ rfl (by repeat (first | exact ag_refl | refine ag_upd rfl ?_ | refine ag_at rfl rfl ?_))⟩
end Go.Proofs.YthgackidonocpaaGreat
