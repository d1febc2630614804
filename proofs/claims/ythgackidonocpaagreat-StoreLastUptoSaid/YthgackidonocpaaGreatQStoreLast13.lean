/-
  Texts of this proof, part 13: Tqw Ab27 Tqf.
-/
import Derived.Test.YthgackidonocpaaGreatQStoreLast12
import Derived.Lib.MinMax
import Derived.MapKept
namespace Go.Proofs.YthgackidonocpaaGreat
open Go.RowKit
theorem Par.check_3 {p : Par} (h : (decide (p.ref < 1) || decide (p.ticks < -1)) = true) : p.check = 3 := by unfold Par.check; rw [if_pos h]
theorem Par.check_2 {p : Par} (h : (decide (p.ref < 1) || decide (p.ticks < -1)) = false) (h2 : (decide ((60 : Int) < (p.box.length : Int)) || decide ((1000 : Int) < (p.wat.length : Int)) || decide ((1000 : Int) < (p.lnk.length : Int))) = true) : p.check = 2 := by unfold Par.check; rw [if_neg (by rw [h]; decide), if_pos h2]
theorem Par.check_s {p : Par} (h : (decide (p.ref < 1) || decide (p.ticks < -1)) = false) (h2 : (decide ((60 : Int) < (p.box.length : Int)) || decide ((1000 : Int) < (p.wat.length : Int)) || decide ((1000 : Int) < (p.lnk.length : Int))) = false) (h3 : ¬ p.sav.check = 0) : p.check = p.sav.check := by unfold Par.check; rw [if_neg (by rw [h]; decide), if_neg (by rw [h2]; decide), if_pos h3]
theorem Par.check_b {p : Par} (h : (decide (p.ref < 1) || decide (p.ticks < -1)) = false) (h2 : (decide ((60 : Int) < (p.box.length : Int)) || decide ((1000 : Int) < (p.wat.length : Int)) || decide ((1000 : Int) < (p.lnk.length : Int))) = false) (h3 : p.sav.check = 0) (h4 : ¬ errs (p.box.map Lt.check) = 0) : p.check = errs (p.box.map Lt.check) := by unfold Par.check; rw [if_neg (by rw [h]; decide), if_neg (by rw [h2]; decide), if_neg (fun g => g h3), if_pos h4]
theorem Par.check_l {p : Par} (h : (decide (p.ref < 1) || decide (p.ticks < -1)) = false) (h2 : (decide ((60 : Int) < (p.box.length : Int)) || decide ((1000 : Int) < (p.wat.length : Int)) || decide ((1000 : Int) < (p.lnk.length : Int))) = false) (h3 : p.sav.check = 0) (h4 : errs (p.box.map Lt.check) = 0) : p.check = if (p.wat.any low1 || p.lnk.any low1) = true then 3 else 0 := by unfold Par.check; rw [if_neg (by rw [h]; decide), if_neg (by rw [h2]; decide), if_neg (fun g => g h3), if_neg (fun g => g h4)]
theorem map_at {α : Type} (f : α → T) {l : List α} {k : Nat} {a : α} (h : l[k]? = some a) : (l.map f)[k * 1]? = some (f a) := by rw [Nat.mul_one, List.getElem?_map, h]; rfl
theorem int_at {l : List Int} {k : Nat} {a : Int} (h : l[k]? = some a) : (l.flatMap intTs)[k * 1]? = some (.lit (.int .i64 a)) := by
  have := flat_get intTs 1 (fun _ => rfl) (j := 0) h (by omega)
  simpa [intTs] using this
theorem any_mem {l : List Int} {n : Int} (h : n ∈ l) (hn : low1 n = true) : l.any low1 = true := List.any_eq_true.2 ⟨n, h, hn⟩
theorem any_none {l : List Int} (h : ∀ n ∈ l, low1 n = false) : l.any low1 = false := by
  rw [List.any_eq_false]
  intro n hn
  rw [h n hn]; decide
set_option maxRecDepth 100000 in
set_option maxHeartbeats 4000000 in
theorem checkParcel_af (p : Par) : AF Tryz.prog 60 [p.t] (· = .lit (.int .i64 p.check)) := by
  have k3 := @Par.check_3 p
  have k2 := @Par.check_2 p
  have ks := @Par.check_s p
  have kb := @Par.check_b p
  have kl := @Par.check_l p
  have hs := checkSaved_af p.sav
  obtain ⟨rf, sv, bx, tk, wt, lk⟩ := p
  dsimp only at k3 k2 ks kb kl hs
  generalize (Par.mk rf sv bx tk wt lk).check = ck at *
  generalize sv.check = cs at *
  obtain ⟨ac, st, ip⟩ := sv
  refine af_enter tok Tryz.func60 Tryz.ntmps60 Tryz.results60 rfl (by kernel_rfl) rfl rfl fun F hX => ?_
  cases d1 : decide (rf < 1)
  rotate_left
  · repeat (first | refine gG ?_ | refine zN1 (fun hlen => ?_) | refine zN2 (fun hlen => ?_) | refine zAl (fun _ => ?_) | refine zBf ?_)
    first | refine zR ?_ | refine zQ ?_
    rw [k3 (by rw [d1]; rfl)]; rfl
  cases d2 : decide (tk < -1)
  rotate_left
  · repeat (first | refine gG ?_ | refine zN1 (fun hlen => ?_) | refine zN2 (fun hlen => ?_) | refine zAl (fun _ => ?_) | refine zBf ?_)
    first | refine zR ?_ | refine zQ ?_
    rw [k3 (by rw [d1, d2]; rfl)]; rfl
  have j1 : (decide (rf < 1) || decide (tk < -1)) = false := by rw [d1, d2]; rfl
  cases d3 : decide ((60 : Int) < (bx.length : Int))
  rotate_left
  · repeat (first | refine gG ?_ | refine zN1 (fun hlen => ?_) | refine zN2 (fun hlen => ?_) | refine zAl (fun _ => ?_) | refine zBf ?_)
    first | refine zR ?_ | refine zQ ?_
    rw [k2 j1 (by rw [d3]; rfl)]; rfl
  cases d4 : decide ((1000 : Int) < (wt.length : Int))
  rotate_left
  · repeat (first | refine gG ?_ | refine zN1 (fun hlen => ?_) | refine zN2 (fun hlen => ?_) | refine zAl (fun _ => ?_) | refine zBf ?_)
    first | refine zR ?_ | refine zQ ?_
    rw [k2 j1 (by rw [d3, d4]; rfl)]; rfl
  cases d5 : decide ((1000 : Int) < (lk.length : Int))
  rotate_left
  · repeat (first | refine gG ?_ | refine zN1 (fun hlen => ?_) | refine zN2 (fun hlen => ?_) | refine zAl (fun _ => ?_) | refine zBf ?_)
    first | refine zR ?_ | refine zQ ?_
    rw [k2 j1 (by rw [d3, d4, d5]; rfl)]; rfl
  have j2 : (decide ((60 : Int) < (bx.length : Int)) || decide ((1000 : Int) < (wt.length : Int)) || decide ((1000 : Int) < (lk.length : Int))) = false := by rw [d3, d4, d5]; rfl
  have ks := ks j1 j2
  have kb := kb j1 j2
  have kl := kl j1 j2
  clear k3 k2 j1 j2
  repeat (first | refine gG ?_ | refine zN1 (fun hlen => ?_) | refine zN2 (fun hlen => ?_) | refine zAl (fun _ => ?_) | refine zBf ?_)
  refine zCall (hs) ?_
  rintro _ rfl
  cases c1 : decide (cs = 0)
  · repeat (first | refine gG ?_ | refine zN1 (fun hlen => ?_) | refine zN2 (fun hlen => ?_) | refine zAl (fun _ => ?_) | refine zBx (fun _ => ?_))
    first | refine zR ?_ | refine zQ ?_
    rw [ks (of_decide_eq_false c1)]; rfl
  have hs0 := of_decide_eq_true c1
  repeat (first | refine gG ?_ | refine zN1 (fun hlen => ?_) | refine zN2 (fun hlen => ?_) | refine zAl (fun _ => ?_) | refine zBx (fun _ => ?_))
  refine x_loop [2, 5, 6, 46, 47, 48, 49, 50, 51, 52, 53, 54, 55] (fun k : Nat => [(46, .c (.lit (.int .i64 k)))]) (fun _ => []) (fun k => k ≤ bx.length ∧ ∀ x ∈ bx.take k, Lt.check x = 0) (fun k => bx.length - k) 0 ⟨Nat.zero_le _, by simp⟩ ⟨rfl, trivial⟩ rfl ?_
  rintro k ⟨hk, hz⟩
  repeat (first | refine gG ?_ | refine zN1 (fun hlen => ?_) | refine zN2 (fun hlen => ?_) | refine zAl (fun _ => ?_) | refine zBx (fun _ => ?_))
  refine x_cond rfl (fun h => ?_) (fun h => ?_)
  · have hk' : k < bx.length := by simpa using h
    obtain ⟨a, ha⟩ := nth hk'
    have hs := checkLetter_af a
    have he := errs_at Lt.check hz ha
    have hsn := take_snoc (p := fun x => Lt.check x = 0) ha hz
    repeat (first | refine gG ?_ | refine zN1 (fun hlen => ?_) | refine zN2 (fun hlen => ?_) | refine zAl (fun _ => ?_) | refine zBx (fun _ => ?_))
    refine zIx (k) (hk') ?_
    repeat (first | refine gG ?_ | refine zN1 (fun hlen => ?_) | refine zN2 (fun hlen => ?_) | refine zAl (fun _ => ?_) | refine zBx (fun _ => ?_))
    refine zEl (flat_at Lt.ts 9 Lt.ts_len ha) (Lt.ts_len a) ?_
    generalize hca : a.check = ca at *
    obtain ⟨ka, fa, ta, na, sa, ⟨kv, nv, tv, lv⟩⟩ := a
    repeat (first | refine gG ?_ | refine zN1 (fun hlen => ?_) | refine zN2 (fun hlen => ?_) | refine zAl (fun _ => ?_) | refine zBx (fun _ => ?_))
    refine zCall (hs) ?_
    rintro _ rfl
    cases c2 : decide (ca = 0)
    · have c0 : ¬ ca = 0 := of_decide_eq_false c2
      repeat (first | refine gG ?_ | refine zN1 (fun hlen => ?_) | refine zN2 (fun hlen => ?_) | refine zAl (fun _ => ?_) | refine zBx (fun _ => ?_))
      first | refine zR ?_ | refine zQ ?_
      rw [kb hs0 (by rw [he c0]; exact c0), he c0]; rfl
    · have c0 : ca = 0 := of_decide_eq_true c2
      repeat (first | refine gG ?_ | refine zN1 (fun hlen => ?_) | refine zN2 (fun hlen => ?_) | refine zAl (fun _ => ?_) | refine zBx (fun _ => ?_))
      exact ⟨k + 1, ⟨hk', hsn c0⟩, by omega, x_wkd 0 ⟨rfl, trivial⟩ rfl (by repeat (first | exact ag_refl | refine ag_upd rfl ?_ | refine ag_at rfl rfl ?_))⟩
  · have hk' : k = bx.length := by have : ¬ k < bx.length := by simpa using h
                                   omega
    subst hk'
    rw [List.take_length] at hz
    have kl := kl hs0 (errs_all Lt.check hz)
    repeat (first | refine gG ?_ | refine zN1 (fun hlen => ?_) | refine zN2 (fun hlen => ?_) | refine zAl (fun _ => ?_) | refine zBx (fun _ => ?_))
    refine x_loop [2, 8, 10, 62, 63, 64, 65, 66, 67, 68, 69, 70, 71, 72, 73, 74, 75] (fun k : Nat => [(62, .c (.lit (.int .i64 k)))]) (fun _ => []) (fun k => k ≤ 2 ∧ ∀ l ∈ [wt, lk].take k, l.any low1 = false) (fun k => 2 - k) 0 ⟨Nat.zero_le _, by simp⟩ ⟨rfl, trivial⟩ rfl ?_
    rintro k ⟨hk, hz2⟩
    repeat (first | refine gG ?_ | refine zN1 (fun hlen => ?_) | refine zN2 (fun hlen => ?_) | refine zAl (fun _ => ?_) | refine zBx (fun _ => ?_))
    refine x_cond rfl (fun h => ?_) (fun h => ?_)
    · have hk' : k < 2 := by have := of_decide_eq_true h; omega
      obtain ⟨a, ha⟩ := nth (l := [wt, lk]) hk'
      have hsn2 := take_snoc (p := fun l : List Int => l.any low1 = false) ha hz2
      have ham : a = wt ∨ a = lk := by have := List.mem_of_getElem? ha; simpa using this
      repeat (first | refine gG ?_ | refine zN1 (fun hlen => ?_) | refine zN2 (fun hlen => ?_) | refine zAl (fun _ => ?_) | refine zBx (fun _ => ?_))
      refine zIx k hk' ?_
      repeat (first | refine gG ?_ | refine zN1 (fun hlen => ?_) | refine zN2 (fun hlen => ?_) | refine zAl (fun _ => ?_) | refine zBx (fun _ => ?_))
      refine zEl1 (map_at intRow ha) ?_
      repeat (first | refine gG ?_ | refine zN1 (fun hlen => ?_) | refine zN2 (fun hlen => ?_) | refine zAl (fun _ => ?_) | refine zBx (fun _ => ?_))
      refine x_loop [2, 10, 68, 69, 70, 71, 72, 73, 74] (fun j : Nat => [(68, .c (.lit (.int .i64 j)))]) (fun _ => []) (fun j => j ≤ a.length ∧ ∀ n ∈ a.take j, low1 n = false) (fun j => a.length - j) 0 ⟨Nat.zero_le _, by simp⟩ ⟨rfl, trivial⟩ rfl ?_
      rintro j ⟨hj, hz3⟩
      repeat (first | refine gG ?_ | refine zN1 (fun hlen => ?_) | refine zN2 (fun hlen => ?_) | refine zAl (fun _ => ?_) | refine zBx (fun _ => ?_))
      refine x_cond rfl (fun h => ?_) (fun h => ?_)
      · have hj' : j < a.length := by simpa using h
        obtain ⟨n, hn⟩ := nth hj'
        have hsn3 := take_snoc (p := fun n => low1 n = false) hn hz3
        repeat (first | refine gG ?_ | refine zN1 (fun hlen => ?_) | refine zN2 (fun hlen => ?_) | refine zAl (fun _ => ?_) | refine zBx (fun _ => ?_))
        refine zIx j hj' ?_
        repeat (first | refine gG ?_ | refine zN1 (fun hlen => ?_) | refine zN2 (fun hlen => ?_) | refine zAl (fun _ => ?_) | refine zBx (fun _ => ?_))
        refine zEl1 (int_at hn) ?_
        cases c3 : decide (n < 1)
        · repeat (first | refine gG ?_ | refine zN1 (fun hlen => ?_) | refine zN2 (fun hlen => ?_) | refine zAl (fun _ => ?_) | refine zBx (fun _ => ?_))
          exact ⟨j + 1, ⟨hj', hsn3 c3⟩, by omega, x_wkd 0 ⟨rfl, trivial⟩ rfl (by repeat (first | exact ag_refl | refine ag_upd rfl ?_ | refine ag_at rfl rfl ?_))⟩
        · repeat (first | refine gG ?_ | refine zN1 (fun hlen => ?_) | refine zN2 (fun hlen => ?_) | refine zAl (fun _ => ?_) | refine zBx (fun _ => ?_))
          first | refine zR ?_ | refine zQ ?_
          have := any_mem (List.mem_of_getElem? hn) c3
          rw [kl, if_pos]
          · rfl
          · rcases ham with rfl | rfl
            · rw [this]; rfl
            · rw [this, Bool.or_true]
      · have hj' : j = a.length := by have : ¬ j < a.length := by simpa using h
                                      omega
        subst hj'
        rw [List.take_length] at hz3
        repeat (first | refine gG ?_ | refine zN1 (fun hlen => ?_) | refine zN2 (fun hlen => ?_) | refine zAl (fun _ => ?_) | refine zBx (fun _ => ?_))
        exact ⟨k + 1, ⟨hk', hsn2 (any_none hz3)⟩, by omega, x_wkd 0 ⟨rfl, trivial⟩ rfl (by repeat (first | exact ag_refl | refine ag_upd rfl ?_ | refine ag_at rfl rfl ?_))⟩
    · have hk' : k = 2 := by have := of_decide_eq_false h; omega
      subst hk'
      repeat (first | refine gG ?_ | refine zN1 (fun hlen => ?_) | refine zN2 (fun hlen => ?_) | refine zAl (fun _ => ?_) | refine zBx (fun _ => ?_))
      first | refine zR ?_ | refine zQ ?_
      rw [kl, if_neg]
      · rfl
      · rw [hz2 wt (by simp), hz2 lk (by simp)]; decide
set_option maxRecDepth 100000 in
set_option maxHeartbeats 2000000 in
theorem listL_ag (f : FuncId) (enc : Lt → List UInt8) (l : List Lt) (hf : ∀ x ∈ l, ∀ (v : Value) (b : List UInt8), b.length + (enc x).length ≤ 1099511627776 → AG Tryz.prog f [.own 0 v, .c (.agg (Lt.ts x))] [.row v 5 1 b.length (byts b)] (Grew 5 (b ++ enc x)))
    (v : Value) (b : List UInt8) (hn : l.length < 9223372036854775808) (hb : b.length + (uv l.length ++ l.flatMap enc).length ≤ 1099511627776) :
    AG Tryz.prog 93 [.own 0 v, .c (letRow l), .fn (.func f) []] [.row v 5 1 b.length (byts b)] (Grew 5 (b ++ (uv l.length ++ l.flatMap enc))) := by
  have hc := nat_ag v b l.length hn (by omega)
  refine ag_enter 1 tok Tryz.func93 Tryz.ntmps93 Tryz.results93 rfl (by kernel_rfl) rfl fun F => ?_
  repeat (first | refine gG ?_ | refine zN1 (fun hlen => ?_) | refine zN2 (fun hlen => ?_) | refine zAl (fun _ => ?_))
  refine zCallG [0] hc ?_
  rintro _ _ ⟨v', rfl, rfl⟩
  refine ⟨.own 0 v', _, re_own, rfl, rfl, ?_⟩
  repeat (first | refine gG ?_ | refine zN1 (fun hlen => ?_) | refine zN2 (fun hlen => ?_) | refine zAl (fun _ => ?_))
  refine x_loop [0, 8, 15, 16, 17, 18, 19, 20, 21, 22, 23] (fun y : Nat × Value => [(15, .c (.lit (.int .i64 (y.1 : Nat)))), (0, .own 0 y.2)]) (fun y => [.row y.2 5 1 (b ++ (uv l.length ++ (l.take y.1).flatMap enc)).length (byts (b ++ (uv l.length ++ (l.take y.1).flatMap enc)))])
    (fun y => y.1 ≤ l.length) (fun y => l.length - y.1) (0, v') (Nat.zero_le _) ⟨rfl, rfl, trivial⟩ (by simp) ?_
  rintro ⟨k, u⟩ hk
  dsimp only at hk ⊢
  repeat (first | refine gG ?_ | refine zN1 (fun hlen => ?_) | refine zN2 (fun hlen => ?_) | refine zAl (fun _ => ?_))
  refine x_cond rfl (fun h => ?_) (fun h => ?_)
  · have hk' : k < l.length := by simpa using h
    obtain ⟨a, ha⟩ := nth hk'
    have hsn := flat_snoc' enc ha
    have hle : ((l.take (k + 1)).flatMap enc).length ≤ (l.flatMap enc).length := by
      have := congrArg (fun r => (List.flatMap enc r).length) (List.take_append_drop (k + 1) l)
      simp only [List.flatMap_append, List.length_append] at this
      omega
    have hca := hf a (List.mem_of_getElem? ha) u (b ++ (uv l.length ++ (l.take k).flatMap enc)) (by
      rw [hsn] at hle
      simp only [List.length_append] at hle hb ⊢
      omega)
    repeat (first | refine gG ?_ | refine zN1 (fun hlen => ?_) | refine zN2 (fun hlen => ?_) | refine zAl (fun _ => ?_))
    refine zIx (k) (hk') ?_
    repeat (first | refine gG ?_ | refine zN1 (fun hlen => ?_) | refine zN2 (fun hlen => ?_) | refine zAl (fun _ => ?_))
    refine zEl (flat_at Lt.ts 9 Lt.ts_len ha) (Lt.ts_len a) ?_
    obtain ⟨ka, fa, ta, na, sa, ⟨kv, nv, tv, lv⟩⟩ := a
    repeat (first | refine gG ?_ | refine zN1 (fun hlen => ?_) | refine zN2 (fun hlen => ?_) | refine zAl (fun _ => ?_))
    refine zCallG [0] hca ?_
    rintro _ _ ⟨u', rfl, rfl⟩
    refine ⟨.own 0 u', _, re_own, rfl, rfl, ?_⟩
    repeat (first | refine gG ?_ | refine zN1 (fun hlen => ?_) | refine zN2 (fun hlen => ?_) | refine zAl (fun _ => ?_))
    exact ⟨(k + 1, u'), hk', by simp only; omega, x_wkd 1 ⟨rfl, rfl, trivial⟩ (by simp only [hsn, List.append_assoc]; rfl) (by repeat (first | exact ag_refl | refine ag_upd rfl ?_ | refine ag_at rfl rfl ?_))⟩
  · have hk' : k = l.length := by have : ¬ k < l.length := by simpa using h
                                  omega
    subst hk'
    repeat (first | refine gG ?_ | refine zN1 (fun hlen => ?_) | refine zN2 (fun hlen => ?_) | refine zAl (fun _ => ?_))
    refine zG ?_
    refine ⟨_, rfl, ?_⟩
    rw [List.take_length]
set_option maxRecDepth 100000 in
set_option maxHeartbeats 2000000 in
theorem listN_ag (f : FuncId) (enc : Int → List UInt8) (l : List Int) (hf : ∀ x ∈ l, ∀ (v : Value) (b : List UInt8), b.length + (enc x).length ≤ 1099511627776 → AG Tryz.prog f [.own 0 v, .c (.lit (.int .i64 x))] [.row v 5 1 b.length (byts b)] (Grew 5 (b ++ enc x)))
    (v : Value) (b : List UInt8) (hn : l.length < 9223372036854775808) (hb : b.length + (uv l.length ++ l.flatMap enc).length ≤ 1099511627776) :
    AG Tryz.prog 97 [.own 0 v, .c (intRow l), .fn (.func f) []] [.row v 5 1 b.length (byts b)] (Grew 5 (b ++ (uv l.length ++ l.flatMap enc))) := by
  have hc := nat_ag v b l.length hn (by omega)
  refine ag_enter 1 tok Tryz.func97 Tryz.ntmps97 Tryz.results97 rfl (by kernel_rfl) rfl fun F => ?_
  repeat (first | refine gG ?_ | refine zN1 (fun hlen => ?_) | refine zN2 (fun hlen => ?_))
  refine zCallG [0] hc ?_
  rintro _ _ ⟨v', rfl, rfl⟩
  refine ⟨.own 0 v', _, re_own, rfl, rfl, ?_⟩
  repeat (first | refine gG ?_ | refine zN1 (fun hlen => ?_) | refine zN2 (fun hlen => ?_))
  refine x_loop [0, 8, 15, 16, 17, 18, 19, 20, 21, 22, 23] (fun y : Nat × Value => [(15, .c (.lit (.int .i64 (y.1 : Nat)))), (0, .own 0 y.2)]) (fun y => [.row y.2 5 1 (b ++ (uv l.length ++ (l.take y.1).flatMap enc)).length (byts (b ++ (uv l.length ++ (l.take y.1).flatMap enc)))])
    (fun y => y.1 ≤ l.length) (fun y => l.length - y.1) (0, v') (Nat.zero_le _) ⟨rfl, rfl, trivial⟩ (by simp) ?_
  rintro ⟨k, u⟩ hk
  dsimp only at hk ⊢
  repeat (first | refine gG ?_ | refine zN1 (fun hlen => ?_) | refine zN2 (fun hlen => ?_))
  refine x_cond rfl (fun h => ?_) (fun h => ?_)
  · have hk' : k < l.length := by simpa using h
    obtain ⟨a, ha⟩ := nth hk'
    have hsn := flat_snoc' enc ha
    have hle : ((l.take (k + 1)).flatMap enc).length ≤ (l.flatMap enc).length := by
      have := congrArg (fun r => (List.flatMap enc r).length) (List.take_append_drop (k + 1) l)
      simp only [List.flatMap_append, List.length_append] at this
      omega
    have hca := hf a (List.mem_of_getElem? ha) u (b ++ (uv l.length ++ (l.take k).flatMap enc)) (by
      rw [hsn] at hle
      simp only [List.length_append] at hle hb ⊢
      omega)
    repeat (first | refine gG ?_ | refine zN1 (fun hlen => ?_) | refine zN2 (fun hlen => ?_))
    refine zIx k hk' ?_
    repeat (first | refine gG ?_ | refine zN1 (fun hlen => ?_) | refine zN2 (fun hlen => ?_))
    refine zEl1 (int_at ha) ?_
    repeat (first | refine gG ?_ | refine zN1 (fun hlen => ?_) | refine zN2 (fun hlen => ?_))
    refine zCallG [0] hca ?_
    rintro _ _ ⟨u', rfl, rfl⟩
    refine ⟨.own 0 u', _, re_own, rfl, rfl, ?_⟩
    repeat (first | refine gG ?_ | refine zN1 (fun hlen => ?_) | refine zN2 (fun hlen => ?_))
    exact ⟨(k + 1, u'), hk', by simp only; omega, x_wkd 1 ⟨rfl, rfl, trivial⟩ (by simp only [hsn, List.append_assoc]; rfl) (by repeat (first | exact ag_refl | refine ag_upd rfl ?_ | refine ag_at rfl rfl ?_))⟩
  · have hk' : k = l.length := by have : ¬ k < l.length := by simpa using h
                                  omega
    subst hk'
    repeat (first | refine gG ?_ | refine zN1 (fun hlen => ?_) | refine zN2 (fun hlen => ?_))
    refine zG ?_
    refine ⟨_, rfl, ?_⟩
    rw [List.take_length]
theorem appendLetter_ag' {x : Lt} (h : x.check = 0) (hok : x.ok) (w : Value) (b : List UInt8) (hb : b.length + x.bytes.length ≤ 1099511627776) :
    AG Tryz.prog 96 [.own 0 w, .c (.agg (Lt.ts x))] [.row w 5 1 b.length (byts b)] (Grew 5 (b ++ x.bytes)) := by
  obtain ⟨k, fm, tt, n, t, v⟩ := x
  have hR := Lt.right h
  obtain ⟨a1, a2, a3, a4, a5⟩ := hok
  unfold inI at a1 a2 a3
  obtain ⟨fm, rfl⟩ := nat_of hR.fm0
  obtain ⟨tt, rfl⟩ := nat_of hR.tt0
  obtain ⟨n, rfl⟩ := nat_of hR.n0.1
  exact appendLetter_ag (k := k) (t := t) (fm := fm) (tt := tt) (n := n) (by omega) (by omega) (by omega) a4 w b hb
theorem natI_ag {n : Int} (h : 1 ≤ n) (hn : inI n) (v : Value) (b : List UInt8) (hb : b.length + (nb n).length ≤ 1099511627776) : AG Tryz.prog 95 [.own 0 v, .c (.lit (.int .i64 n))] [.row v 5 1 b.length (byts b)] (Grew 5 (b ++ nb n)) := by
  unfold inI at hn
  obtain ⟨m, rfl⟩ := nat_of (show 0 ≤ n by omega)
  have := nat_ag v b m (by omega) (by omega)
  simpa [nb] using this
theorem nb_le {n : Int} (hn : inI n) : (nb n).length ≤ 10 := by unfold inI at hn; exact uv_len64 (by omega)
theorem Par.bytes_le {p : Par} (hs : p.Small) (h : p.Right) : p.bytes.length ≤ 71000000000 := by
  have h0 := Sav.bytes_le hs.sav (Sav.right h.sav)
  have h1 := flat_le Lt.bytes 40000000 (l := p.box) fun x hx => (hs.box x hx).2.2.1
  have h2 := flat_le nb 10 (l := p.wat) fun n hn => nb_le (hs.wat n hn)
  have h3 := flat_le nb 10 (l := p.lnk) fun n hn => nb_le (hs.lnk n hn)
  obtain ⟨a1, a2, a3, a4, a5, a6, a7, a8⟩ := h
  have h6 : p.box.length * 40000000 ≤ 60 * 40000000 := Nat.mul_le_mul_right _ a4
  have h7 : p.wat.length * 10 ≤ 1000 * 10 := Nat.mul_le_mul_right _ a7
  have h8 : p.lnk.length * 10 ≤ 1000 * 10 := Nat.mul_le_mul_right _ a8
  have hr := hs.ref
  unfold inI at hr
  have u1 := uv_len64 (n := p.ref.toNat) (by omega)
  have u2 := uv_len64 (n := p.box.length) (by omega)
  have u3 := uv_len64 (n := p.wat.length) (by omega)
  have u4 := uv_len64 (n := p.lnk.length) (by omega)
  have u5 := uv_len64 (zz_lt hs.ticks)
  simp only [Par.bytes, List.length_append]
  omega
set_option maxRecDepth 100000 in
set_option maxHeartbeats 4000000 in
theorem appendParcel_ag (p : Par) (hs : p.Small) (h : p.Right) (v : Value) (b : List UInt8) (hb : b.length + p.bytes.length ≤ 1099511627776) :
    AG Tryz.prog 67 [.own 0 v, .c p.t] [.row v 5 1 b.length (byts b)] (Grew 5 (b ++ p.bytes)) := by
  have hsr := Sav.right h.sav
  obtain ⟨rf, sv, bx, tk, wt, lk⟩ := p
  obtain ⟨a1, a2, a3, a4, a5, a6, a7, a8⟩ := h
  obtain ⟨b1, b2, b3, b4, b5, b6⟩ := hs
  dsimp only at hsr a1 a2 a3 a4 a5 a6 a7 a8 b1 b2 b3 b4 b5 b6
  have hrf := b3
  unfold inI at hrf
  obtain ⟨rf, rfl⟩ := nat_of (show 0 ≤ rf by omega)
  have e0 : (Par.mk rf sv bx tk wt lk).bytes = uv rf ++ (sv.bytes ++ (uv bx.length ++ (bx.flatMap Lt.bytes ++ (uv (zz tk) ++ (uv wt.length ++ (wt.flatMap nb ++ (uv lk.length ++ lk.flatMap nb))))))) := rfl
  rw [e0] at hb ⊢
  simp only [List.length_append] at hb
  have c1 := nat_ag v b rf (by omega) (by omega)
  have c2 := fun v2 => appendSaved_ag sv (fun v hv => (b1.state v hv).1) (fun x hx => (b1.inp x hx).1) hsr.states hsr.inps v2 (b ++ uv rf) (by simp only [List.length_append]; omega)
  have c3 := fun v3 => listL_ag 96 Lt.bytes bx (fun x hx v b hb => appendLetter_ag' (a3 x hx) (b2 x hx).1 v b hb) v3 (b ++ uv rf ++ sv.bytes) (by omega) (by simp only [List.length_append]; omega)
  have c4 := fun v4 => int_ag v4 (b ++ uv rf ++ sv.bytes ++ (uv bx.length ++ bx.flatMap Lt.bytes)) tk b4 (by simp only [List.length_append]; omega)
  have c5 := fun v5 => listN_ag 95 nb wt (fun x hx v b hb => natI_ag (a5 x hx) (b5 x hx) v b hb) v5 (b ++ uv rf ++ sv.bytes ++ (uv bx.length ++ bx.flatMap Lt.bytes) ++ uv (zz tk)) (by omega) (by simp only [List.length_append]; omega)
  have c6 := fun v6 => listN_ag 95 nb lk (fun x hx v b hb => natI_ag (a6 x hx) (b6 x hx) v b hb) v6 (b ++ uv rf ++ sv.bytes ++ (uv bx.length ++ bx.flatMap Lt.bytes) ++ uv (zz tk) ++ (uv wt.length ++ wt.flatMap nb)) (by omega) (by simp only [List.length_append]; omega)
  obtain ⟨ac, st, ip⟩ := sv
  refine ag_enter 1 tok Tryz.func67 Tryz.ntmps67 Tryz.results67 rfl (by kernel_rfl) rfl fun F => ?_
  repeat (first | refine gG ?_ | refine zBf ?_)
  refine ac_draw [0, 0, 0, 2, 0, 0, 2, 0, 0, 2, 0] [0, 1, 2, 4, 5, 7, 8, 3, 6, 9, 10] (by kernel_rfl) (by kernel_rfl) ?_
  refine gW ?_
  apply w_l; (focus exact rfl); (focus exact rfl); (refine zCallG [0] c1 ?_; rintro _ _ ⟨v', rfl, rfl⟩; refine ⟨.own 0 v', _, re_own, rfl, rfl, ?_⟩)
  apply w_l; (focus exact rfl); (focus exact rfl); (refine zCallG [0] (c2 _) ?_; rintro _ _ ⟨v', rfl, rfl⟩; refine ⟨.own 0 v', _, re_own, rfl, rfl, ?_⟩)
  apply w_l; (focus exact rfl); (focus exact rfl); (refine zCallG [0] (c3 _) ?_; rintro _ _ ⟨v', rfl, rfl⟩; refine ⟨.own 0 v', _, re_own, rfl, rfl, ?_⟩)
  refine gW ?_
  refine w_nil ?_
  repeat (first | refine gG ?_ | refine zBx (fun _ => ?_))
  refine ac_draw [0, 0, 0, 2, 0, 0, 2, 0, 0, 2, 0] [0, 1, 2, 4, 5, 7, 8, 3, 6, 9, 10] (by kernel_rfl) (by kernel_rfl) ?_
  refine gW ?_
  apply w_l; (focus exact rfl); (focus exact rfl); (refine zCallG [0] (c4 _) ?_; rintro _ _ ⟨v', rfl, rfl⟩; refine ⟨.own 0 v', _, re_own, rfl, rfl, ?_⟩)
  apply w_l; (focus exact rfl); (focus exact rfl); (refine zCallG [0] (c5 _) ?_; rintro _ _ ⟨v', rfl, rfl⟩; refine ⟨.own 0 v', _, re_own, rfl, rfl, ?_⟩)
  apply w_l; (focus exact rfl); (focus exact rfl); (refine zCallG [0] (c6 _) ?_; rintro _ _ ⟨v', rfl, rfl⟩; refine ⟨.own 0 v', _, re_own, rfl, rfl, ?_⟩)
  refine gW ?_
  refine w_nil ?_
  repeat (first | refine gG ?_ | refine zBx (fun _ => ?_))
  refine zG ?_
  exact ⟨_, rfl, by simp only [List.append_assoc]⟩
set_option maxRecDepth 100000 in
set_option maxHeartbeats 4000000 in
theorem parcelW_af (p : Par) (hs : p.Small) : AF Tryz.prog 41 [p.t] (Outs2 p.out p.check) := by
  have hw : AF Tryz.prog 66 [p.t, .fn (.func 60) [], .fn (.func 67) []] (Outs2 p.out p.check) := by
    have hc := checkParcel_af p
    unfold Par.out
    by_cases hyes : p.check = 0
    · rw [if_pos hyes]
      have hR := Par.right hyes
      have hbl := Par.bytes_le hs hR
      have ha := ag_nil (Nat.succ_pos 0) (appendParcel_ag p hs hR (.slice none 0 0) [] (by simp only [List.length_nil]; omega))
      rw [List.nil_append] at ha
      obtain ⟨rf, ⟨ac, st, ip⟩, bx, tk, wt, lk⟩ := p
      generalize (Par.mk rf ⟨ac, st, ip⟩ bx tk wt lk).bytes = o at *
      rw [hyes] at hc ⊢
      refine af_enter tok Tryz.func66 Tryz.ntmps66 Tryz.results66 rfl (by kernel_rfl) rfl rfl fun F hX => ?_
      repeat (first | refine gG ?_ | refine zBf ?_)
      refine zCallc (hc) ?_
      rintro _ rfl
      repeat (first | refine gG ?_ | refine zBx (fun _ => ?_))
      refine zCallGc [] ha ?_
      rintro _ _ ⟨v', rfl, rfl⟩
      refine ⟨.own 0 v', _, re_own, rfl, rfl, ?_⟩
      repeat (first | refine gG ?_ | refine zBx (fun _ => ?_))
      first | refine zR ?_ | refine zQ ?_
      rfl
    · rw [if_neg hyes]
      have d1 : decide (p.check = 0) = false := decide_eq_false hyes
      generalize p.check = e at *
      obtain ⟨rf, ⟨ac, st, ip⟩, bx, tk, wt, lk⟩ := p
      refine af_enter tok Tryz.func66 Tryz.ntmps66 Tryz.results66 rfl (by kernel_rfl) rfl rfl fun F hX => ?_
      repeat (first | refine gG ?_ | refine zBf ?_)
      refine zCallc (hc) ?_
      rintro _ rfl
      repeat (first | refine gG ?_ | refine zBx (fun _ => ?_))
      first | refine zR (ts := [bytRow [], .lit (.int .i64 e)]) ?_ | refine zQ (ts := [bytRow [], .lit (.int .i64 e)]) ?_
      rfl
  generalize p.out = o at *
  generalize p.check = e at *
  obtain ⟨rf, ⟨ac, st, ip⟩, bx, tk, wt, lk⟩ := p
  refine af_enter tok Tryz.func41 Tryz.ntmps41 Tryz.results41 rfl (by kernel_rfl) rfl rfl fun F hX => ?_
  repeat (first | refine gG ?_ | refine zBf ?_)
  refine zCall (hw) ?_
  rintro _ rfl
  repeat (first | refine gG ?_ | refine zBx (fun _ => ?_))
  first | refine zR ?_ | refine zQ ?_
  rfl
end Go.Proofs.YthgackidonocpaaGreat
namespace Go.Proofs.YthgackidonocpaaGreat
open Go.RowKit
section
variable {P : Program} {F : Frm} {d : Option Tmp} {ty : TypeId} {pos : String} {aft : Array Edge} {g : Option (Nat × Bool)} {ρ : Operand → AV} {hp : List Blk} {K : AV → List Blk → Prop}
theorem zMin {x y : Operand} {t t' : TypeId} {k k' : IntKind} {a b : Int} (h : K (.c (.lit (.int k (min a b)))) hp) (hx : ρ x = .c (.lit (.int k a)) := by exact rfl) (hy : ρ y = .c (.lit (.int k' b)) := by exact rfl) : LO P F ⟨d, .call { callee := .builtin .min, args := #[x, y], argTypes := #[t, t'] }, ty, pos, aft, g⟩ ρ hp K := by
  refine LO.same (fun M e w he hh => ?_) h
  have h1 := he x (by simp [Op.operands, Call.operands])
  have h2 := he y (by simp [Op.operands, Call.operands])
  rw [hx] at h1
  rw [hy] at h2
  simp only [RA, RT] at h1 h2
  refine ⟨.int k (min a b), ?_, by simp only [RA, RT]⟩
  simp [execOp, resolve, invoke, builtin, h1, h2, Go.Lib.run_min_ints]
end
end Go.Proofs.YthgackidonocpaaGreat
namespace Go.Proofs.YthgackidonocpaaGreat
open Go.RowKit
theorem minl_low : ∀ (l : List Int) (a : Int), decide (l.foldl min a < 1) = (low1 a || l.any low1)
  | [], a => by rw [List.any_nil, Bool.or_false]; rfl
  | b :: l, a => by
    rw [List.foldl_cons, minl_low l (min a b), List.any_cons]
    have : low1 (min a b) = (low1 a || low1 b) := by
      simp only [low1]
      by_cases h1 : a < 1
      · rw [decide_eq_true h1, Bool.true_or]; exact decide_eq_true (by omega)
      · by_cases h2 : b < 1
        · rw [decide_eq_true h2, Bool.or_true]; exact decide_eq_true (by omega)
        · rw [decide_eq_false h1, decide_eq_false h2]; exact decide_eq_false (by omega)
    rw [this, Bool.or_assoc]
theorem foldl_snoc {l : List Int} {k : Nat} {a b : Int} (h : l[k]? = some b) : (l.take (k + 1)).foldl min a = min ((l.take k).foldl min a) b := by
  obtain ⟨h1, rfl⟩ := List.getElem?_eq_some_iff.1 h
  rw [List.take_succ_eq_append_getElem h1, List.foldl_append]
  rfl
set_option maxRecDepth 100000 in
set_option maxHeartbeats 4000000 in
theorem min_af (a : Int) (l : List Int) : AF Tryz.prog 78 [intRow (a :: l)] (· = .lit (.int .i64 (l.foldl min a))) := by
  have hll : (a :: l).length = l.length + 1 := rfl
  have d0 : decide (((a :: l).length : Int) < 1) = false := decide_eq_false (by simp only [List.length_cons]; omega)
  refine af_enter tok Tryz.func78 Tryz.ntmps78 Tryz.results78 rfl (by kernel_rfl) rfl rfl fun F hX => ?_
  repeat (first | refine gG ?_ | refine zN1 (fun hlen => ?_) | refine zN2 (fun hlen => ?_))
  refine zIx 0 (Nat.succ_pos _) ?_
  repeat (first | refine gG ?_ | refine zN1 (fun hlen => ?_) | refine zN2 (fun hlen => ?_))
  refine x_loop [3, 4, 12, 13, 14, 15, 16, 17, 18, 19, 20, 21, 22, 23] (fun k : Nat => [(4, .c (.lit (.int .i64 ((k + 1 : Nat) : Int)))), (3, .c (.lit (.int .i64 ((l.take k).foldl min a))))]) (fun _ => []) (fun k => k ≤ l.length) (fun k => l.length - k) 0 (Nat.zero_le _) ⟨rfl, rfl, trivial⟩ rfl ?_
  intro k hk
  repeat (first | refine gG ?_ | refine zN1 (fun hlen => ?_) | refine zN2 (fun hlen => ?_))
  refine x_cond rfl (fun h => ?_) (fun h => ?_)
  · have hk' : k < l.length := by have := of_decide_eq_true h; simp only [List.length_cons] at this; omega
    obtain ⟨b, hb⟩ := nth hk'
    have hb' : (a :: l)[k + 1]? = some b := by simpa using hb
    repeat (first | refine gG ?_ | refine zN1 (fun hlen => ?_) | refine zN2 (fun hlen => ?_))
    refine zIx (k + 1) (show k + 1 < (a :: l).length by simp only [List.length_cons]; omega) ?_
    repeat (first | refine gG ?_ | refine zN1 (fun hlen => ?_) | refine zN2 (fun hlen => ?_))
    refine zEl1 (int_at hb') ?_
    repeat (first | refine gG ?_ | refine zN1 (fun hlen => ?_) | refine zN2 (fun hlen => ?_))
    refine zMin ?_
    repeat (first | refine gG ?_ | refine zN1 (fun hlen => ?_) | refine zN2 (fun hlen => ?_))
    exact ⟨k + 1, hk', by omega, x_wkd 0 ⟨rfl, by rw [foldl_snoc hb]; rfl, trivial⟩ rfl (by repeat (first | exact ag_refl | refine ag_upd rfl ?_ | refine ag_at rfl rfl ?_))⟩
  · have hk' : k = l.length := by have := of_decide_eq_false h; simp only [List.length_cons] at this; omega
    subst hk'
    rw [List.take_length]
    repeat (first | refine gG ?_ | refine zN1 (fun hlen => ?_) | refine zN2 (fun hlen => ?_))
    first | refine zR ?_ | refine zQ ?_
    rfl
set_option maxRecDepth 100000 in
set_option maxHeartbeats 4000000 in
theorem parcelFault_af (p : Par) (hsm : p.Small) : AF Tryz.prog 52 [p.t] (· = .lit (.int .i64 p.check)) := by
  have k3 := @Par.check_3 p
  have k2 := @Par.check_2 p
  have ks := @Par.check_s p
  have kb := @Par.check_b p
  have kl := @Par.check_l p
  have hs := savedFault_af p.sav (fun v hv => (hsm.sav.state v hv).2.1) (fun x hx => (hsm.sav.inp x hx).2.1)
  obtain ⟨rf, sv, bx, tk, wt, lk⟩ := p
  have hbm := hsm.box
  dsimp only at k3 k2 ks kb kl hs hbm
  generalize (Par.mk rf sv bx tk wt lk).check = ck at *
  generalize sv.check = cs at *
  obtain ⟨ac, st, ip⟩ := sv
  refine af_enter tok Tryz.func52 Tryz.ntmps52 Tryz.results52 rfl (by kernel_rfl) rfl rfl fun F hX => ?_
  cases d1 : decide (rf < 1)
  rotate_left
  · repeat (first | refine gG ?_ | refine zN1 (fun hlen => ?_) | refine zN2 (fun hlen => ?_) | refine zAl (fun _ => ?_) | refine zBf ?_)
    first | refine zR ?_ | refine zQ ?_
    rw [k3 (by rw [d1]; rfl)]; rfl
  cases d2 : decide (tk < -1)
  rotate_left
  · repeat (first | refine gG ?_ | refine zN1 (fun hlen => ?_) | refine zN2 (fun hlen => ?_) | refine zAl (fun _ => ?_) | refine zBf ?_)
    first | refine zR ?_ | refine zQ ?_
    rw [k3 (by rw [d1, d2]; rfl)]; rfl
  have j1 : (decide (rf < 1) || decide (tk < -1)) = false := by rw [d1, d2]; rfl
  cases d3 : decide ((60 : Int) < (bx.length : Int))
  rotate_left
  · repeat (first | refine gG ?_ | refine zN1 (fun hlen => ?_) | refine zN2 (fun hlen => ?_) | refine zAl (fun _ => ?_) | refine zBf ?_)
    first | refine zR ?_ | refine zQ ?_
    rw [k2 j1 (by rw [d3]; rfl)]; rfl
  cases d4 : decide ((1000 : Int) < (wt.length : Int))
  rotate_left
  · repeat (first | refine gG ?_ | refine zN1 (fun hlen => ?_) | refine zN2 (fun hlen => ?_) | refine zAl (fun _ => ?_) | refine zBf ?_)
    first | refine zR ?_ | refine zQ ?_
    rw [k2 j1 (by rw [d3, d4]; rfl)]; rfl
  cases d5 : decide ((1000 : Int) < (lk.length : Int))
  rotate_left
  · repeat (first | refine gG ?_ | refine zN1 (fun hlen => ?_) | refine zN2 (fun hlen => ?_) | refine zAl (fun _ => ?_) | refine zBf ?_)
    first | refine zR ?_ | refine zQ ?_
    rw [k2 j1 (by rw [d3, d4, d5]; rfl)]; rfl
  have j2 : (decide ((60 : Int) < (bx.length : Int)) || decide ((1000 : Int) < (wt.length : Int)) || decide ((1000 : Int) < (lk.length : Int))) = false := by rw [d3, d4, d5]; rfl
  have ks := ks j1 j2
  have kb := kb j1 j2
  have kl := kl j1 j2
  clear k3 k2 j1 j2
  repeat (first | refine gG ?_ | refine zN1 (fun hlen => ?_) | refine zN2 (fun hlen => ?_) | refine zAl (fun _ => ?_) | refine zBf ?_)
  refine zCall (hs) ?_
  rintro _ rfl
  cases c1 : decide (cs = 0)
  · repeat (first | refine gG ?_ | refine zN1 (fun hlen => ?_) | refine zN2 (fun hlen => ?_) | refine zAl (fun _ => ?_) | refine zBx (fun _ => ?_))
    first | refine zR ?_ | refine zQ ?_
    rw [ks (of_decide_eq_false c1)]; rfl
  have hs0 := of_decide_eq_true c1
  repeat (first | refine gG ?_ | refine zN1 (fun hlen => ?_) | refine zN2 (fun hlen => ?_) | refine zAl (fun _ => ?_) | refine zBx (fun _ => ?_))
  refine x_loop [2, 5, 6, 40, 41, 42, 43, 44, 45, 46, 47, 48, 49] (fun k : Nat => [(40, .c (.lit (.int .i64 k)))]) (fun _ => []) (fun k => k ≤ bx.length ∧ ∀ x ∈ bx.take k, Lt.check x = 0) (fun k => bx.length - k) 0 ⟨Nat.zero_le _, by simp⟩ ⟨rfl, trivial⟩ rfl ?_
  rintro k ⟨hk, hz⟩
  repeat (first | refine gG ?_ | refine zN1 (fun hlen => ?_) | refine zN2 (fun hlen => ?_) | refine zAl (fun _ => ?_) | refine zBx (fun _ => ?_))
  refine x_cond rfl (fun h => ?_) (fun h => ?_)
  · have hk' : k < bx.length := by simpa using h
    obtain ⟨a, ha⟩ := nth hk'
    have hs : AF Tryz.prog 53 [a.t] (· = .lit (.int .i64 a.check)) := (by have h := letterFault_af a (hbm a (List.mem_of_getElem? ha)).2.1; rw [Lt.fault_eq] at h; exact h)
    have he := errs_at Lt.check hz ha
    have hsn := take_snoc (p := fun x => Lt.check x = 0) ha hz
    repeat (first | refine gG ?_ | refine zN1 (fun hlen => ?_) | refine zN2 (fun hlen => ?_) | refine zAl (fun _ => ?_) | refine zBx (fun _ => ?_))
    refine zIx (k) (hk') ?_
    repeat (first | refine gG ?_ | refine zN1 (fun hlen => ?_) | refine zN2 (fun hlen => ?_) | refine zAl (fun _ => ?_) | refine zBx (fun _ => ?_))
    refine zEl (flat_at Lt.ts 9 Lt.ts_len ha) (Lt.ts_len a) ?_
    generalize hca : a.check = ca at *
    obtain ⟨ka, fa, ta, na, sa, ⟨kv, nv, tv, lv⟩⟩ := a
    repeat (first | refine gG ?_ | refine zN1 (fun hlen => ?_) | refine zN2 (fun hlen => ?_) | refine zAl (fun _ => ?_) | refine zBx (fun _ => ?_))
    refine zCall (hs) ?_
    rintro _ rfl
    cases c2 : decide (ca = 0)
    · have c0 : ¬ ca = 0 := of_decide_eq_false c2
      repeat (first | refine gG ?_ | refine zN1 (fun hlen => ?_) | refine zN2 (fun hlen => ?_) | refine zAl (fun _ => ?_) | refine zBx (fun _ => ?_))
      first | refine zR ?_ | refine zQ ?_
      rw [kb hs0 (by rw [he c0]; exact c0), he c0]; rfl
    · have c0 : ca = 0 := of_decide_eq_true c2
      repeat (first | refine gG ?_ | refine zN1 (fun hlen => ?_) | refine zN2 (fun hlen => ?_) | refine zAl (fun _ => ?_) | refine zBx (fun _ => ?_))
      exact ⟨k + 1, ⟨hk', hsn c0⟩, by omega, x_wkd 0 ⟨rfl, trivial⟩ rfl (by repeat (first | exact ag_refl | refine ag_upd rfl ?_ | refine ag_at rfl rfl ?_))⟩
  · have hk' : k = bx.length := by have : ¬ k < bx.length := by simpa using h
                                   omega
    subst hk'
    rw [List.take_length] at hz
    have kl := kl hs0 (errs_all Lt.check hz)
    rcases wt with _ | ⟨w0, wr⟩
    · have e1 : decide ((0 : Int) < (([] : List Int).length : Int)) = false := rfl
      rcases lk with _ | ⟨l0, lr⟩
      · have e2 : decide ((0 : Int) < (([] : List Int).length : Int)) = false := rfl
        repeat (first | refine gG ?_ | refine zN1 (fun hlen => ?_) | refine zN2 (fun hlen => ?_) | refine zAl (fun _ => ?_) | refine zBx (fun _ => ?_))
        first | refine zR ?_ | refine zQ ?_
        rw [kl, if_neg (by decide)]; rfl
      · have e2 : decide ((0 : Int) < ((l0 :: lr).length : Int)) = true := decide_eq_true (by simp only [List.length_cons]; omega)
        have hm2 := min_af l0 lr
        have hl2 := minl_low lr l0
        generalize lr.foldl min l0 = m2 at *
        have hl2 : decide (m2 < 1) = (l0 :: lr).any low1 := by rw [hl2, List.any_cons]
        cases f2 : decide (m2 < 1)
        · have f2x := f2
          rw [hl2] at f2x
          repeat (first | refine gG ?_ | refine zN1 (fun hlen => ?_) | refine zN2 (fun hlen => ?_) | refine zAl (fun _ => ?_) | refine zBx (fun _ => ?_))
          refine zCall (hm2) ?_
          rintro _ rfl
          repeat (first | refine gG ?_ | refine zN1 (fun hlen => ?_) | refine zN2 (fun hlen => ?_) | refine zAl (fun _ => ?_) | refine zBx (fun _ => ?_))
          first | refine zR ?_ | refine zQ ?_
          rw [kl, if_neg (by rw [f2x]; decide)]; rfl
        · have f2x := f2
          rw [hl2] at f2x
          repeat (first | refine gG ?_ | refine zN1 (fun hlen => ?_) | refine zN2 (fun hlen => ?_) | refine zAl (fun _ => ?_) | refine zBx (fun _ => ?_))
          refine zCall (hm2) ?_
          rintro _ rfl
          repeat (first | refine gG ?_ | refine zN1 (fun hlen => ?_) | refine zN2 (fun hlen => ?_) | refine zAl (fun _ => ?_) | refine zBx (fun _ => ?_))
          first | refine zR ?_ | refine zQ ?_
          rw [kl, if_pos (by rw [f2x]; rfl)]; rfl
    · have e1 : decide ((0 : Int) < ((w0 :: wr).length : Int)) = true := decide_eq_true (by simp only [List.length_cons]; omega)
      have hm1 := min_af w0 wr
      have hl1 := minl_low wr w0
      generalize wr.foldl min w0 = m1 at *
      have hl1 : decide (m1 < 1) = (w0 :: wr).any low1 := by rw [hl1, List.any_cons]
      cases f1 : decide (m1 < 1)
      rotate_left
      · have f1x := f1
        rw [hl1] at f1x
        repeat (first | refine gG ?_ | refine zN1 (fun hlen => ?_) | refine zN2 (fun hlen => ?_) | refine zAl (fun _ => ?_) | refine zBx (fun _ => ?_))
        refine zCall (hm1) ?_
        rintro _ rfl
        repeat (first | refine gG ?_ | refine zN1 (fun hlen => ?_) | refine zN2 (fun hlen => ?_) | refine zAl (fun _ => ?_) | refine zBx (fun _ => ?_))
        first | refine zR ?_ | refine zQ ?_
        rw [kl, if_pos (by rw [f1x]; rfl)]; rfl
      have f1x := f1
      rw [hl1] at f1x
      rcases lk with _ | ⟨l0, lr⟩
      · have e2 : decide ((0 : Int) < (([] : List Int).length : Int)) = false := rfl
        repeat (first | refine gG ?_ | refine zN1 (fun hlen => ?_) | refine zN2 (fun hlen => ?_) | refine zAl (fun _ => ?_) | refine zBx (fun _ => ?_))
        refine zCall (hm1) ?_
        rintro _ rfl
        repeat (first | refine gG ?_ | refine zN1 (fun hlen => ?_) | refine zN2 (fun hlen => ?_) | refine zAl (fun _ => ?_) | refine zBx (fun _ => ?_))
        first | refine zR ?_ | refine zQ ?_
        rw [kl, if_neg (by rw [f1x]; decide)]; rfl
      · have e2 : decide ((0 : Int) < ((l0 :: lr).length : Int)) = true := decide_eq_true (by simp only [List.length_cons]; omega)
        have hm2 := min_af l0 lr
        have hl2 := minl_low lr l0
        generalize lr.foldl min l0 = m2 at *
        have hl2 : decide (m2 < 1) = (l0 :: lr).any low1 := by rw [hl2, List.any_cons]
        cases f2 : decide (m2 < 1)
        · have f2x := f2
          rw [hl2] at f2x
          repeat (first | refine gG ?_ | refine zN1 (fun hlen => ?_) | refine zN2 (fun hlen => ?_) | refine zAl (fun _ => ?_) | refine zBx (fun _ => ?_))
          refine zCall (hm1) ?_
          rintro _ rfl
          repeat (first | refine gG ?_ | refine zN1 (fun hlen => ?_) | refine zN2 (fun hlen => ?_) | refine zAl (fun _ => ?_) | refine zBx (fun _ => ?_))
          refine zCall (hm2) ?_
          rintro _ rfl
          repeat (first | refine gG ?_ | refine zN1 (fun hlen => ?_) | refine zN2 (fun hlen => ?_) | refine zAl (fun _ => ?_) | refine zBx (fun _ => ?_))
          first | refine zR ?_ | refine zQ ?_
          rw [kl, if_neg (by rw [f1x, f2x]; decide)]; rfl
        · have f2x := f2
          rw [hl2] at f2x
          repeat (first | refine gG ?_ | refine zN1 (fun hlen => ?_) | refine zN2 (fun hlen => ?_) | refine zAl (fun _ => ?_) | refine zBx (fun _ => ?_))
          refine zCall (hm1) ?_
          rintro _ rfl
          repeat (first | refine gG ?_ | refine zN1 (fun hlen => ?_) | refine zN2 (fun hlen => ?_) | refine zAl (fun _ => ?_) | refine zBx (fun _ => ?_))
          refine zCall (hm2) ?_
          rintro _ rfl
          repeat (first | refine gG ?_ | refine zN1 (fun hlen => ?_) | refine zN2 (fun hlen => ?_) | refine zAl (fun _ => ?_) | refine zBx (fun _ => ?_))
          first | refine zR ?_ | refine zQ ?_
          rw [kl, if_pos (by rw [f1x, f2x]; rfl)]; rfl
def encL (l : List Int) : List UInt8 := uv l.length ++ l.flatMap nb
theorem letterText_af' {x : Lt} (h : x.check = 0) (hok : x.ok) (hb : x.bytes.length ≤ 1099511627776) : AF Tryz.prog 35 [x.t] (· = .lit (.string (bs x.bytes))) := by
  obtain ⟨k, fm, tt, n, t, v⟩ := x
  have hR := Lt.right h
  obtain ⟨a1, a2, a3, a4, a5⟩ := hok
  unfold inI at a1 a2 a3
  obtain ⟨fm, rfl⟩ := nat_of hR.fm0
  obtain ⟨tt, rfl⟩ := nat_of hR.tt0
  obtain ⟨n, rfl⟩ := nat_of hR.n0.1
  exact letterText_af (k := k) (t := t) (fm := fm) (tt := tt) (n := n) (by omega) (by omega) (by omega) a4 hb
set_option maxRecDepth 100000 in
set_option maxHeartbeats 4000000 in
theorem parcelBytes_af (p : Par) (hs : p.Small) : AF Tryz.prog 32 [p.t] (Outs2 p.out p.check) := by
  have hc := parcelFault_af p hs
  unfold Par.out
  by_cases hyes : p.check = 0
  rotate_left
  · rw [if_neg hyes]
    have d1 : decide (p.check = 0) = false := decide_eq_false hyes
    generalize p.check = e at *
    obtain ⟨rf, ⟨ac, st, ip⟩, bx, tk, wt, lk⟩ := p
    refine af_enter tok Tryz.func32 Tryz.ntmps32 Tryz.results32 rfl (by kernel_rfl) rfl rfl fun F hX => ?_
    repeat (first | refine gG ?_ | refine zN1 (fun hlen => ?_) | refine zN2 (fun hlen => ?_) | refine zAl (fun _ => ?_) | refine zBf ?_)
    refine zCall (hc) ?_
    rintro _ rfl
    repeat (first | refine gG ?_ | refine zN1 (fun hlen => ?_) | refine zN2 (fun hlen => ?_) | refine zAl (fun _ => ?_) | refine zBx (fun _ => ?_))
    first | refine zR (ts := [bytRow [], .lit (.int .i64 e)]) ?_ | refine zQ (ts := [bytRow [], .lit (.int .i64 e)]) ?_
    rfl
  rw [if_pos hyes]
  have hR := Par.right hyes
  have hbl := Par.bytes_le hs hR
  rw [hyes] at hc ⊢
  have hsr := Sav.right hR.sav
  have hsb := Sav.bytes_le hs.sav hsr
  obtain ⟨rf, sv, bx, tk, wt, lk⟩ := p
  obtain ⟨a1, a2, a3, a4, a5, a6, a7, a8⟩ := hR
  obtain ⟨b1, b2, b3, b4, b5, b6⟩ := hs
  dsimp only at hsr hsb a1 a2 a3 a4 a5 a6 a7 a8 b1 b2 b3 b4 b5 b6
  have hrf := b3
  unfold inI at hrf
  obtain ⟨rf, rfl⟩ := nat_of (show 0 ≤ rf by omega)
  have e0 : (Par.mk rf sv bx tk wt lk).bytes = uv rf ++ sv.bytes ++ uv bx.length ++ bx.flatMap Lt.bytes ++ uv (zz tk) ++ [wt, lk].flatMap encL := by simp [Par.bytes, encL]
  rw [e0] at hbl ⊢
  simp only [List.length_append] at hbl
  have c1 := rnat_af rf (by omega)
  have c2 := savedText_af sv (fun v hv => (b1.state v hv).1) (fun x hx => ⟨(b1.inp x hx).1, (Inp.right (hsr.inp x hx)).kind.2⟩) hsr.states hsr.inps (by omega)
  have c3 := rnat_af bx.length (by omega)
  have c4 := rnum_af tk b4
  have w1 : IntKind.u64.wrap (rf : Int) = (rf : Int) := by rw [wrap_u64]; omega
  have w3 : IntKind.u64.wrap (bx.length : Int) = (bx.length : Int) := by rw [wrap_u64]; omega
  have ul1 := uv_len64 (n := bx.length) (by omega)
  generalize sv.bytes = sb at *
  obtain ⟨ac, st, ip⟩ := sv
  refine af_enter tok Tryz.func32 Tryz.ntmps32 Tryz.results32 rfl (by kernel_rfl) rfl rfl fun F hX => ?_
  repeat (first | refine gG ?_ | refine zN1 (fun hlen => ?_) | refine zN2 (fun hlen => ?_) | refine zAl (fun _ => ?_) | refine zBf ?_)
  refine zCall (hc) ?_
  rintro _ rfl
  repeat (first | refine gG ?_ | refine zN1 (fun hlen => ?_) | refine zN2 (fun hlen => ?_) | refine zAl (fun _ => ?_) | refine zBx (fun _ => ?_))
  refine ac_draw [1, 1, 1, 1, 1, 1, 1, 1, 1, 1, 1, 1, 1, 1, 1] [0, 1, 2, 3, 4, 5, 6, 7, 8, 9, 10, 11, 12, 13, 14] (by kernel_rfl) (by kernel_rfl) ?_
  refine gW ?_
  apply w_q; (focus exact rfl); (focus exact rfl); focus (intro _; (refine lo_conv tok rfl rfl rfl rfl w1 ?_); exact det_refl)
  apply w_q; (focus exact rfl); (focus exact rfl); focus (intro _; (refine lo_call c1 rfl (by repeat (first | exact rzs_nil | apply rzs_cons | exact rz_c | exact rz_nil rfl | apply rz_agg | exact rz_own rfl | apply rz_fn | exact rz_ptr rfl | apply rz_tup)) ?_; rintro _ rfl); exact det_refl)
  refine gW ?_
  apply w_q; (focus exact rfl); (focus exact rfl); focus (intro _; (refine lo_call c2 rfl (by repeat (first | exact rzs_nil | apply rzs_cons | exact rz_c | exact rz_nil rfl | apply rz_agg | exact rz_own rfl | apply rz_fn | exact rz_ptr rfl | apply rz_tup)) ?_; rintro _ rfl); exact det_refl)
  apply w_q; (focus exact rfl); (focus exact rfl); focus (intro _; (refine zCatb (uv rf) sb (by first | omega | (simp only [List.length_append, List.length_cons, List.length_nil, sz_len]; omega)) ?_); exact det_refl)
  refine gW ?_
  apply w_q; (focus exact rfl); (focus exact rfl); focus (intro _; (refine lo_conv tok rfl rfl rfl rfl w3 ?_); exact det_refl)
  apply w_q; (focus exact rfl); (focus exact rfl); focus (intro _; (refine lo_call c3 rfl (by repeat (first | exact rzs_nil | apply rzs_cons | exact rz_c | exact rz_nil rfl | apply rz_agg | exact rz_own rfl | apply rz_fn | exact rz_ptr rfl | apply rz_tup)) ?_; rintro _ rfl); exact det_refl)
  apply w_q; (focus exact rfl); (focus exact rfl); focus (intro _; (refine zCatb (uv rf ++ sb) (uv bx.length) (by first | omega | (simp only [List.length_append]; omega)) ?_); exact det_refl)
  refine gW ?_
  refine w_nil ?_
  repeat (first | refine gG ?_ | refine zN1 (fun hlen => ?_) | refine zN2 (fun hlen => ?_) | refine zAl (fun _ => ?_) | refine zBx (fun _ => ?_))
  refine x_loop [5, 7, 34, 35, 36, 37, 38, 39, 40, 41, 42] (fun y : Nat => [(34, .c (.lit (.int .i64 (y : Nat)))), (5, .c (.lit (.string (bs (uv rf ++ sb ++ uv bx.length ++ (bx.take y).flatMap Lt.bytes)))))]) (fun _ => []) (fun y => y ≤ bx.length) (fun y => bx.length - y) 0 (Nat.zero_le _) ⟨rfl, by simp; rfl, trivial⟩ rfl ?_
  intro i hi
  repeat (first | refine gG ?_ | refine zN1 (fun hlen => ?_) | refine zN2 (fun hlen => ?_) | refine zAl (fun _ => ?_) | refine zBx (fun _ => ?_))
  refine x_cond rfl (fun h => ?_) (fun h => ?_)
  · have hi' : i < bx.length := by simpa using h
    obtain ⟨a, hla⟩ := nth hi'
    have hsn := flat_snoc' Lt.bytes hla
    have hle := flat_take_le Lt.bytes bx (i + 1)
    rw [hsn, List.length_append] at hle
    have hc := letterText_af' (a3 a (List.mem_of_getElem? hla)) (b2 a (List.mem_of_getElem? hla)).1 (by omega)
    repeat (first | refine gG ?_ | refine zN1 (fun hlen => ?_) | refine zN2 (fun hlen => ?_) | refine zAl (fun _ => ?_) | refine zBx (fun _ => ?_))
    refine zIx (i) (hi') ?_
    repeat (first | refine gG ?_ | refine zN1 (fun hlen => ?_) | refine zN2 (fun hlen => ?_) | refine zAl (fun _ => ?_) | refine zBx (fun _ => ?_))
    refine zEl (flat_at Lt.ts 9 Lt.ts_len hla) (Lt.ts_len a) ?_
    generalize a.bytes = ab at *
    obtain ⟨ka, fa, ta, na, sa, ⟨kv, nv, tv, lv⟩⟩ := a
    repeat (first | refine gG ?_ | refine zN1 (fun hlen => ?_) | refine zN2 (fun hlen => ?_) | refine zAl (fun _ => ?_) | refine zBx (fun _ => ?_))
    refine zCall (hc) ?_
    rintro _ rfl
    repeat (first | refine gG ?_ | refine zN1 (fun hlen => ?_) | refine zN2 (fun hlen => ?_) | refine zAl (fun _ => ?_) | refine zBx (fun _ => ?_))
    refine zCatb (uv rf ++ sb ++ uv bx.length ++ (bx.take i).flatMap Lt.bytes) ab (by first | omega | (simp only [List.length_append]; omega)) ?_
    repeat (first | refine gG ?_ | refine zN1 (fun hlen => ?_) | refine zN2 (fun hlen => ?_) | refine zAl (fun _ => ?_) | refine zBx (fun _ => ?_))
    exact ⟨i + 1, hi', by omega, x_wkd 0 ⟨rfl, by simp only [hsn, List.append_assoc]; rfl, trivial⟩ rfl (by repeat (first | exact ag_refl | refine ag_upd rfl ?_ | refine ag_at rfl rfl ?_))⟩
  have hi' : i = bx.length := by have : ¬ i < bx.length := by simpa using h
                                 omega
  subst hi'
  rw [List.take_length]
  repeat (first | refine gG ?_ | refine zN1 (fun hlen => ?_) | refine zN2 (fun hlen => ?_) | refine zAl (fun _ => ?_) | refine zBx (fun _ => ?_))
  refine zCall (c4) ?_
  rintro _ rfl
  repeat (first | refine gG ?_ | refine zN1 (fun hlen => ?_) | refine zN2 (fun hlen => ?_) | refine zAl (fun _ => ?_) | refine zBx (fun _ => ?_))
  refine zCatb (uv rf ++ sb ++ uv bx.length ++ bx.flatMap Lt.bytes) (uv (zz tk)) (by first | omega | (simp only [List.length_append]; omega)) ?_
  repeat (first | refine gG ?_ | refine zN1 (fun hlen => ?_) | refine zN2 (fun hlen => ?_) | refine zAl (fun _ => ?_) | refine zBx (fun _ => ?_))
  refine x_loop [5, 9, 11, 54, 55, 56, 57, 58, 59, 60, 61, 62, 63, 64, 65, 66, 67, 68, 69, 70, 71, 72, 73, 74, 75, 76] (fun y : Nat => [(54, .c (.lit (.int .i64 (y : Nat)))), (5, .c (.lit (.string (bs (uv rf ++ sb ++ uv bx.length ++ bx.flatMap Lt.bytes ++ uv (zz tk) ++ ([wt, lk].take y).flatMap encL)))))]) (fun _ => []) (fun y => y ≤ 2) (fun y => 2 - y) 0 (Nat.zero_le _) ⟨rfl, by simp; rfl, trivial⟩ rfl ?_
  intro i hi
  repeat (first | refine gG ?_ | refine zN1 (fun hlen => ?_) | refine zN2 (fun hlen => ?_) | refine zAl (fun _ => ?_) | refine zBx (fun _ => ?_))
  refine x_cond rfl (fun h => ?_) (fun h => ?_)
  · have hi' : i < 2 := by have := of_decide_eq_true h; omega
    obtain ⟨a, hla⟩ := nth (l := [wt, lk]) hi'
    have hsn := flat_snoc' encL hla
    have hle := flat_take_le encL [wt, lk] i
    have ham : a = wt ∨ a = lk := by have := List.mem_of_getElem? hla; simpa using this
    have hal : a.length ≤ 1000 := by rcases ham with rfl | rfl <;> assumption
    have hain : ∀ n ∈ a, inI n ∧ 1 ≤ n := by
      rcases ham with rfl | rfl
      · exact fun n hn => ⟨b5 n hn, a5 n hn⟩
      · exact fun n hn => ⟨b6 n hn, a6 n hn⟩
    clear ham
    have wa : IntKind.u64.wrap (a.length : Int) = (a.length : Int) := by rw [wrap_u64]; omega
    have ca := rnat_af a.length (by omega)
    have ula := uv_len64 (n := a.length) (by omega)
    have hfa := flat_le nb 10 (l := a) fun n hn => nb_le (hain n hn).1
    have heq : encL a = uv a.length ++ a.flatMap nb := rfl
    repeat (first | refine gG ?_ | refine zN1 (fun hlen => ?_) | refine zN2 (fun hlen => ?_) | refine zAl (fun _ => ?_) | refine zBx (fun _ => ?_))
    refine zIx i hi' ?_
    repeat (first | refine gG ?_ | refine zN1 (fun hlen => ?_) | refine zN2 (fun hlen => ?_) | refine zAl (fun _ => ?_) | refine zBx (fun _ => ?_))
    refine zEl1 (map_at intRow hla) ?_
    repeat (first | refine gG ?_ | refine zN1 (fun hlen => ?_) | refine zN2 (fun hlen => ?_) | refine zAl (fun _ => ?_) | refine zBx (fun _ => ?_))
    refine lo_conv tok rfl rfl rfl rfl wa ?_
    repeat (first | refine gG ?_ | refine zN1 (fun hlen => ?_) | refine zN2 (fun hlen => ?_) | refine zAl (fun _ => ?_) | refine zBx (fun _ => ?_))
    refine zCall (ca) ?_
    rintro _ rfl
    repeat (first | refine gG ?_ | refine zN1 (fun hlen => ?_) | refine zN2 (fun hlen => ?_) | refine zAl (fun _ => ?_) | refine zBx (fun _ => ?_))
    refine zCatb (uv rf ++ sb ++ uv bx.length ++ bx.flatMap Lt.bytes ++ uv (zz tk) ++ ([wt, lk].take i).flatMap encL) (uv a.length) (by first | omega | (simp only [List.length_append]; omega)) ?_
    repeat (first | refine gG ?_ | refine zN1 (fun hlen => ?_) | refine zN2 (fun hlen => ?_) | refine zAl (fun _ => ?_) | refine zBx (fun _ => ?_))
    refine x_loop [5, 11, 66, 67, 68, 69, 70, 71, 72, 73, 74, 75] (fun y : Nat => [(66, .c (.lit (.int .i64 (y : Nat)))), (5, .c (.lit (.string (bs (uv rf ++ sb ++ uv bx.length ++ bx.flatMap Lt.bytes ++ uv (zz tk) ++ ([wt, lk].take i).flatMap encL ++ uv a.length ++ (a.take y).flatMap nb)))))]) (fun _ => []) (fun y => y ≤ a.length) (fun y => a.length - y) 0 (Nat.zero_le _) ⟨rfl, by simp; rfl, trivial⟩ rfl ?_
    intro j hj
    repeat (first | refine gG ?_ | refine zN1 (fun hlen => ?_) | refine zN2 (fun hlen => ?_) | refine zAl (fun _ => ?_) | refine zBx (fun _ => ?_))
    refine x_cond rfl (fun h => ?_) (fun h => ?_)
    · have hj' : j < a.length := by simpa using h
      obtain ⟨n, hn⟩ := nth hj'
      obtain ⟨hn1, hn2⟩ := hain n (List.mem_of_getElem? hn)
      have hsn3 := flat_snoc' nb hn
      have hle3 := flat_take_le nb a (j + 1)
      rw [hsn3, List.length_append] at hle3
      repeat (first | refine gG ?_ | refine zN1 (fun hlen => ?_) | refine zN2 (fun hlen => ?_) | refine zAl (fun _ => ?_) | refine zBx (fun _ => ?_))
      refine zIx j hj' ?_
      repeat (first | refine gG ?_ | refine zN1 (fun hlen => ?_) | refine zN2 (fun hlen => ?_) | refine zAl (fun _ => ?_) | refine zBx (fun _ => ?_))
      refine zEl1 (int_at hn) ?_
      unfold inI at hn1
      obtain ⟨m, rfl⟩ := nat_of (show 0 ≤ n by omega)
      have wn : IntKind.u64.wrap (m : Int) = (m : Int) := by rw [wrap_u64]; omega
      have cn := rnat_af m (by omega)
      have hnb : nb (m : Int) = uv m := rfl
      rw [hnb] at hsn3 hle3
      repeat (first | refine gG ?_ | refine zN1 (fun hlen => ?_) | refine zN2 (fun hlen => ?_) | refine zAl (fun _ => ?_) | refine zBx (fun _ => ?_))
      refine lo_conv tok rfl rfl rfl rfl wn ?_
      repeat (first | refine gG ?_ | refine zN1 (fun hlen => ?_) | refine zN2 (fun hlen => ?_) | refine zAl (fun _ => ?_) | refine zBx (fun _ => ?_))
      refine zCall (cn) ?_
      rintro _ rfl
      repeat (first | refine gG ?_ | refine zN1 (fun hlen => ?_) | refine zN2 (fun hlen => ?_) | refine zAl (fun _ => ?_) | refine zBx (fun _ => ?_))
      refine zCatb (uv rf ++ sb ++ uv bx.length ++ bx.flatMap Lt.bytes ++ uv (zz tk) ++ ([wt, lk].take i).flatMap encL ++ uv a.length ++ (a.take j).flatMap nb) (uv m) (by first | omega | (simp only [List.length_append]; omega)) ?_
      repeat (first | refine gG ?_ | refine zN1 (fun hlen => ?_) | refine zN2 (fun hlen => ?_) | refine zAl (fun _ => ?_) | refine zBx (fun _ => ?_))
      exact ⟨j + 1, hj', by omega, x_wkd 0 ⟨rfl, by simp only [hsn3, List.append_assoc]; rfl, trivial⟩ rfl (by repeat (first | exact ag_refl | refine ag_upd rfl ?_ | refine ag_at rfl rfl ?_))⟩
    · have hj' : j = a.length := by have : ¬ j < a.length := by simpa using h
                                    omega
      subst hj'
      rw [List.take_length]
      repeat (first | refine gG ?_ | refine zN1 (fun hlen => ?_) | refine zN2 (fun hlen => ?_) | refine zAl (fun _ => ?_) | refine zBx (fun _ => ?_))
      exact ⟨i + 1, hi', by omega, x_wkd 0 ⟨rfl, by simp only [hsn, heq, List.append_assoc]; rfl, trivial⟩ rfl (by repeat (first | exact ag_refl | refine ag_upd rfl ?_ | refine ag_at rfl rfl ?_))⟩
  have hi' : i = 2 := by have := of_decide_eq_false h; omega
  subst hi'
  repeat (first | refine gG ?_ | refine zN1 (fun hlen => ?_) | refine zN2 (fun hlen => ?_) | refine zAl (fun _ => ?_) | refine zBx (fun _ => ?_))
  refine zByt (s := bs (uv rf ++ sb ++ uv bx.length ++ bx.flatMap Lt.bytes ++ uv (zz tk) ++ [wt, lk].flatMap encL)) (by rw [bs_size']; simp only [maxLen, List.length_append]; omega) ?_
  repeat (first | refine gG ?_ | refine zN1 (fun hlen => ?_) | refine zN2 (fun hlen => ?_) | refine zAl (fun _ => ?_) | refine zBx (fun _ => ?_))
  first | refine zR ?_ | refine zQ ?_
  rfl
end Go.Proofs.YthgackidonocpaaGreat
