/-
  Texts of this proof, part 8: Tmg Tmh Tmi Tmj Tmk.
-/
import Derived.Test.YtllgibfmddihgaaDoorQTreeTells7
import Derived.Lib.AppendStr
namespace Go.Proofs.YtllgibfmddihgaaDoor
open Go.RowKit
set_option maxRecDepth 100000 in
set_option maxHeartbeats 4000000 in
theorem eqTys_af (p : Y → Y → Bool) (f : FuncId) (cap : List T) (l r : List Y) (hf : ∀ a ∈ l, ∀ b ∈ r, AF Tryd.prog f (.agg (Y.ts a) :: .agg (Y.ts b) :: cap) (· = .lit (.bool (p a b)))) :
    AF Tryd.prog 81 [Y.row l, Y.row r, .fn (.func f) cap] (· = .lit (.bool (eqBy p l r))) := by
  refine af_enter tok Tryd.func81 Tryd.ntmps81 Tryd.results81 rfl (by kernel_rfl) rfl rfl fun F hX => ?_
  repeat (first | refine gG ?_ | refine zN1 (fun hlen => ?_) | refine zN2 (fun hlen => ?_) | refine zAl (fun _ => ?_))
  refine x_cond rfl (fun h => ?_) (fun h => ?_)
  · repeat (first | refine gG ?_ | refine zN1 (fun hlen => ?_) | refine zN2 (fun hlen => ?_) | refine zAl (fun _ => ?_))
    first | refine zR ?_ | refine zQ ?_
    have : l.length ≠ r.length := by have := h; simp at this; omega
    rw [eqBy_len this]
    rfl
  · have hlr : l.length = r.length := by have := h; simp at this; omega
    clear h
    repeat (first | refine gG ?_ | refine zN1 (fun hlen => ?_) | refine zN2 (fun hlen => ?_) | refine zAl (fun _ => ?_))
    refine x_loop [6, 7, 8, 9, 17, 18, 19, 20, 21, 22, 23, 24, 25, 26, 27, 28, 29, 30, 31] (fun k : Nat => [(17, .c (.lit (.int .i64 k)))]) (fun _ => []) (fun k => k ≤ l.length ∧ eqBy p l r = eqBy p (l.drop k) (r.drop k)) (fun k => l.length - k) 0 ⟨Nat.zero_le _, rfl⟩ ⟨rfl, trivial⟩ rfl fun k hk => ?_
    repeat (first | refine gG ?_ | refine zN1 (fun hlen => ?_) | refine zN2 (fun hlen => ?_) | refine zAl (fun _ => ?_))
    refine x_cond rfl (fun h => ?_) (fun h => ?_)
    · have hk' : k < l.length := by simpa using h
      have hk2 : k < r.length := hlr ▸ hk'
      obtain ⟨a, ha⟩ := nth hk'
      obtain ⟨b, hb⟩ := nth hk2
      have hp := hf a (List.mem_of_getElem? ha) b (List.mem_of_getElem? hb)
      have hstep : eqBy p (l.drop k) (r.drop k) = (p a b && eqBy p (l.drop (k + 1)) (r.drop (k + 1))) := eqBy_step ha hb
      clear h
      repeat (first | refine gG ?_ | refine zN1 (fun hlen => ?_) | refine zN2 (fun hlen => ?_) | refine zAl (fun _ => ?_))
      refine zIx (k) (hk') ?_
      repeat (first | refine gG ?_ | refine zN1 (fun hlen => ?_) | refine zN2 (fun hlen => ?_) | refine zAl (fun _ => ?_))
      refine zEl (Y.at ha) (Y.ts_len a) ?_
      generalize p a b = pq at *
      obtain ⟨k1, n1, l1⟩ := a
      obtain ⟨k1', n1', l1'⟩ := b
      repeat (first | refine gG ?_ | refine zN1 (fun hlen => ?_) | refine zN2 (fun hlen => ?_) | refine zAl (fun _ => ?_))
      refine zIx (k) (hk2) ?_
      repeat (first | refine gG ?_ | refine zN1 (fun hlen => ?_) | refine zN2 (fun hlen => ?_) | refine zAl (fun _ => ?_))
      refine zEl (Y.at hb) (Y.ts_len _) ?_
      repeat (first | refine gG ?_ | refine zN1 (fun hlen => ?_) | refine zN2 (fun hlen => ?_) | refine zAl (fun _ => ?_))
      refine zCallc hp ?_ (hx := rzs_cons (by repeat (first | exact rzs_nil | apply rzs_cons | exact rz_c | exact rz_nil rfl | apply rz_agg | exact rz_own rfl | apply rz_fn | exact rz_ptr rfl | apply rz_tup)) (rzs_cons (by repeat (first | exact rzs_nil | apply rzs_cons | exact rz_c | exact rz_nil rfl | apply rz_agg | exact rz_own rfl | apply rz_fn | exact rz_ptr rfl | apply rz_tup)) rzs_self))
      rintro _ rfl
      cases pq
      · repeat (first | refine gG ?_ | refine zN1 (fun hlen => ?_) | refine zN2 (fun hlen => ?_) | refine zAl (fun _ => ?_))
        first | refine zR ?_ | refine zQ ?_
        rw [hk.2, hstep]
        rfl
      · repeat (first | refine gG ?_ | refine zN1 (fun hlen => ?_) | refine zN2 (fun hlen => ?_) | refine zAl (fun _ => ?_))
        exact ⟨k + 1, ⟨hk', by rw [hk.2, hstep, Bool.true_and]⟩, by omega, x_wkd 0 ⟨rfl, trivial⟩ rfl (by repeat (first | exact ag_refl | refine ag_upd rfl ?_ | refine ag_at rfl rfl ?_))⟩
    · have hk' : k = l.length := by
        have : ¬ k < l.length := by simpa using h
        omega
      repeat (first | refine gG ?_ | refine zN1 (fun hlen => ?_) | refine zN2 (fun hlen => ?_) | refine zAl (fun _ => ?_))
      first | refine zR ?_ | refine zQ ?_
      rw [hk.2, hk', List.drop_length, hlr, List.drop_length]
      rfl
set_option maxRecDepth 100000 in
set_option maxHeartbeats 4000000 in
theorem eqPats_af (p : V → V → Bool) (f : FuncId) (cap : List T) (l r : List V) (hf : ∀ a ∈ l, ∀ b ∈ r, AF Tryd.prog f (.agg (V.ts a) :: .agg (V.ts b) :: cap) (· = .lit (.bool (p a b)))) :
    AF Tryd.prog 160 [V.row l, V.row r, .fn (.func f) cap] (· = .lit (.bool (eqBy p l r))) := by
  refine af_enter tok Tryd.func160 Tryd.ntmps160 Tryd.results160 rfl (by kernel_rfl) rfl rfl fun F hX => ?_
  repeat (first | refine gG ?_ | refine zN1 (fun hlen => ?_) | refine zN2 (fun hlen => ?_) | refine zAl (fun _ => ?_))
  refine x_cond rfl (fun h => ?_) (fun h => ?_)
  · repeat (first | refine gG ?_ | refine zN1 (fun hlen => ?_) | refine zN2 (fun hlen => ?_) | refine zAl (fun _ => ?_))
    first | refine zR ?_ | refine zQ ?_
    have : l.length ≠ r.length := by have := h; simp at this; omega
    rw [eqBy_len this]
    rfl
  · have hlr : l.length = r.length := by have := h; simp at this; omega
    clear h
    repeat (first | refine gG ?_ | refine zN1 (fun hlen => ?_) | refine zN2 (fun hlen => ?_) | refine zAl (fun _ => ?_))
    refine x_loop [6, 7, 8, 9, 17, 18, 19, 20, 21, 22, 23, 24, 25, 26, 27, 28, 29, 30, 31] (fun k : Nat => [(17, .c (.lit (.int .i64 k)))]) (fun _ => []) (fun k => k ≤ l.length ∧ eqBy p l r = eqBy p (l.drop k) (r.drop k)) (fun k => l.length - k) 0 ⟨Nat.zero_le _, rfl⟩ ⟨rfl, trivial⟩ rfl fun k hk => ?_
    repeat (first | refine gG ?_ | refine zN1 (fun hlen => ?_) | refine zN2 (fun hlen => ?_) | refine zAl (fun _ => ?_))
    refine x_cond rfl (fun h => ?_) (fun h => ?_)
    · have hk' : k < l.length := by simpa using h
      have hk2 : k < r.length := hlr ▸ hk'
      obtain ⟨a, ha⟩ := nth hk'
      obtain ⟨b, hb⟩ := nth hk2
      have hp := hf a (List.mem_of_getElem? ha) b (List.mem_of_getElem? hb)
      have hstep : eqBy p (l.drop k) (r.drop k) = (p a b && eqBy p (l.drop (k + 1)) (r.drop (k + 1))) := eqBy_step ha hb
      clear h
      repeat (first | refine gG ?_ | refine zN1 (fun hlen => ?_) | refine zN2 (fun hlen => ?_) | refine zAl (fun _ => ?_))
      refine zIx (k) (hk') ?_
      repeat (first | refine gG ?_ | refine zN1 (fun hlen => ?_) | refine zN2 (fun hlen => ?_) | refine zAl (fun _ => ?_))
      refine zEl (V.at ha) (V.ts_len a) ?_
      generalize p a b = pq at *
      obtain ⟨k1, n1, t1, l1⟩ := a
      obtain ⟨k1', n1', t1', l1'⟩ := b
      repeat (first | refine gG ?_ | refine zN1 (fun hlen => ?_) | refine zN2 (fun hlen => ?_) | refine zAl (fun _ => ?_))
      refine zIx (k) (hk2) ?_
      repeat (first | refine gG ?_ | refine zN1 (fun hlen => ?_) | refine zN2 (fun hlen => ?_) | refine zAl (fun _ => ?_))
      refine zEl (V.at hb) (V.ts_len _) ?_
      repeat (first | refine gG ?_ | refine zN1 (fun hlen => ?_) | refine zN2 (fun hlen => ?_) | refine zAl (fun _ => ?_))
      refine zCallc hp ?_ (hx := rzs_cons (by repeat (first | exact rzs_nil | apply rzs_cons | exact rz_c | exact rz_nil rfl | apply rz_agg | exact rz_own rfl | apply rz_fn | exact rz_ptr rfl | apply rz_tup)) (rzs_cons (by repeat (first | exact rzs_nil | apply rzs_cons | exact rz_c | exact rz_nil rfl | apply rz_agg | exact rz_own rfl | apply rz_fn | exact rz_ptr rfl | apply rz_tup)) rzs_self))
      rintro _ rfl
      cases pq
      · repeat (first | refine gG ?_ | refine zN1 (fun hlen => ?_) | refine zN2 (fun hlen => ?_) | refine zAl (fun _ => ?_))
        first | refine zR ?_ | refine zQ ?_
        rw [hk.2, hstep]
        rfl
      · repeat (first | refine gG ?_ | refine zN1 (fun hlen => ?_) | refine zN2 (fun hlen => ?_) | refine zAl (fun _ => ?_))
        exact ⟨k + 1, ⟨hk', by rw [hk.2, hstep, Bool.true_and]⟩, by omega, x_wkd 0 ⟨rfl, trivial⟩ rfl (by repeat (first | exact ag_refl | refine ag_upd rfl ?_ | refine ag_at rfl rfl ?_))⟩
    · have hk' : k = l.length := by
        have : ¬ k < l.length := by simpa using h
        omega
      repeat (first | refine gG ?_ | refine zN1 (fun hlen => ?_) | refine zN2 (fun hlen => ?_) | refine zAl (fun _ => ?_))
      first | refine zR ?_ | refine zQ ?_
      rw [hk.2, hk', List.drop_length, hlr, List.drop_length]
      rfl
set_option maxRecDepth 100000 in
set_option maxHeartbeats 4000000 in
theorem eqExs_af (p : Ex → Ex → Bool) (f : FuncId) (cap : List T) (l r : List Ex) (hf : ∀ a ∈ l, ∀ b ∈ r, AF Tryd.prog f (.agg (Ex.ts a) :: .agg (Ex.ts b) :: cap) (· = .lit (.bool (p a b)))) :
    AF Tryd.prog 63 [Ex.row l, Ex.row r, .fn (.func f) cap] (· = .lit (.bool (eqBy p l r))) := by
  refine af_enter tok Tryd.func63 Tryd.ntmps63 Tryd.results63 rfl (by kernel_rfl) rfl rfl fun F hX => ?_
  repeat (first | refine gG ?_ | refine zN1 (fun hlen => ?_) | refine zN2 (fun hlen => ?_) | refine zAl (fun _ => ?_))
  refine x_cond rfl (fun h => ?_) (fun h => ?_)
  · repeat (first | refine gG ?_ | refine zN1 (fun hlen => ?_) | refine zN2 (fun hlen => ?_) | refine zAl (fun _ => ?_))
    first | refine zR ?_ | refine zQ ?_
    have : l.length ≠ r.length := by have := h; simp at this; omega
    rw [eqBy_len this]
    rfl
  · have hlr : l.length = r.length := by have := h; simp at this; omega
    clear h
    repeat (first | refine gG ?_ | refine zN1 (fun hlen => ?_) | refine zN2 (fun hlen => ?_) | refine zAl (fun _ => ?_))
    refine x_loop [6, 7, 8, 9, 17, 18, 19, 20, 21, 22, 23, 24, 25, 26, 27, 28, 29, 30, 31] (fun k : Nat => [(17, .c (.lit (.int .i64 k)))]) (fun _ => []) (fun k => k ≤ l.length ∧ eqBy p l r = eqBy p (l.drop k) (r.drop k)) (fun k => l.length - k) 0 ⟨Nat.zero_le _, rfl⟩ ⟨rfl, trivial⟩ rfl fun k hk => ?_
    repeat (first | refine gG ?_ | refine zN1 (fun hlen => ?_) | refine zN2 (fun hlen => ?_) | refine zAl (fun _ => ?_))
    refine x_cond rfl (fun h => ?_) (fun h => ?_)
    · have hk' : k < l.length := by simpa using h
      have hk2 : k < r.length := hlr ▸ hk'
      obtain ⟨a, ha⟩ := nth hk'
      obtain ⟨b, hb⟩ := nth hk2
      have hp := hf a (List.mem_of_getElem? ha) b (List.mem_of_getElem? hb)
      have hstep : eqBy p (l.drop k) (r.drop k) = (p a b && eqBy p (l.drop (k + 1)) (r.drop (k + 1))) := eqBy_step ha hb
      clear h
      repeat (first | refine gG ?_ | refine zN1 (fun hlen => ?_) | refine zN2 (fun hlen => ?_) | refine zAl (fun _ => ?_))
      refine zIx (k) (hk') ?_
      repeat (first | refine gG ?_ | refine zN1 (fun hlen => ?_) | refine zN2 (fun hlen => ?_) | refine zAl (fun _ => ?_))
      refine zEl (Ex.at ha) (Ex.ts_len a) ?_
      generalize p a b = pq at *
      obtain ⟨k1, n1, t1, ns1, ys1, l1, rs1, ps1⟩ := a
      obtain ⟨k1', n1', t1', ns1', ys1', l1', rs1', ps1'⟩ := b
      repeat (first | refine gG ?_ | refine zN1 (fun hlen => ?_) | refine zN2 (fun hlen => ?_) | refine zAl (fun _ => ?_))
      refine zIx (k) (hk2) ?_
      repeat (first | refine gG ?_ | refine zN1 (fun hlen => ?_) | refine zN2 (fun hlen => ?_) | refine zAl (fun _ => ?_))
      refine zEl (Ex.at hb) (Ex.ts_len _) ?_
      repeat (first | refine gG ?_ | refine zN1 (fun hlen => ?_) | refine zN2 (fun hlen => ?_) | refine zAl (fun _ => ?_))
      refine zCallc hp ?_ (hx := rzs_cons (by repeat (first | exact rzs_nil | apply rzs_cons | exact rz_c | exact rz_nil rfl | apply rz_agg | exact rz_own rfl | apply rz_fn | exact rz_ptr rfl | apply rz_tup)) (rzs_cons (by repeat (first | exact rzs_nil | apply rzs_cons | exact rz_c | exact rz_nil rfl | apply rz_agg | exact rz_own rfl | apply rz_fn | exact rz_ptr rfl | apply rz_tup)) rzs_self))
      rintro _ rfl
      cases pq
      · repeat (first | refine gG ?_ | refine zN1 (fun hlen => ?_) | refine zN2 (fun hlen => ?_) | refine zAl (fun _ => ?_))
        first | refine zR ?_ | refine zQ ?_
        rw [hk.2, hstep]
        rfl
      · repeat (first | refine gG ?_ | refine zN1 (fun hlen => ?_) | refine zN2 (fun hlen => ?_) | refine zAl (fun _ => ?_))
        exact ⟨k + 1, ⟨hk', by rw [hk.2, hstep, Bool.true_and]⟩, by omega, x_wkd 0 ⟨rfl, trivial⟩ rfl (by repeat (first | exact ag_refl | refine ag_upd rfl ?_ | refine ag_at rfl rfl ?_))⟩
    · have hk' : k = l.length := by
        have : ¬ k < l.length := by simpa using h
        omega
      repeat (first | refine gG ?_ | refine zN1 (fun hlen => ?_) | refine zN2 (fun hlen => ?_) | refine zAl (fun _ => ?_))
      first | refine zR ?_ | refine zQ ?_
      rw [hk.2, hk', List.drop_length, hlr, List.drop_length]
      rfl
set_option maxRecDepth 100000 in
set_option maxHeartbeats 4000000 in
theorem eqArs_af (p : Ar → Ar → Bool) (f : FuncId) (cap : List T) (l r : List Ar) (hf : ∀ a ∈ l, ∀ b ∈ r, AF Tryd.prog f (.agg (Ar.ts a) :: .agg (Ar.ts b) :: cap) (· = .lit (.bool (p a b)))) :
    AF Tryd.prog 103 [Ar.row l, Ar.row r, .fn (.func f) cap] (· = .lit (.bool (eqBy p l r))) := by
  refine af_enter tok Tryd.func103 Tryd.ntmps103 Tryd.results103 rfl (by kernel_rfl) rfl rfl fun F hX => ?_
  repeat (first | refine gG ?_ | refine zN1 (fun hlen => ?_) | refine zN2 (fun hlen => ?_) | refine zAl (fun _ => ?_))
  refine x_cond rfl (fun h => ?_) (fun h => ?_)
  · repeat (first | refine gG ?_ | refine zN1 (fun hlen => ?_) | refine zN2 (fun hlen => ?_) | refine zAl (fun _ => ?_))
    first | refine zR ?_ | refine zQ ?_
    have : l.length ≠ r.length := by have := h; simp at this; omega
    rw [eqBy_len this]
    rfl
  · have hlr : l.length = r.length := by have := h; simp at this; omega
    clear h
    repeat (first | refine gG ?_ | refine zN1 (fun hlen => ?_) | refine zN2 (fun hlen => ?_) | refine zAl (fun _ => ?_))
    refine x_loop [6, 7, 8, 9, 17, 18, 19, 20, 21, 22, 23, 24, 25, 26, 27, 28, 29, 30, 31] (fun k : Nat => [(17, .c (.lit (.int .i64 k)))]) (fun _ => []) (fun k => k ≤ l.length ∧ eqBy p l r = eqBy p (l.drop k) (r.drop k)) (fun k => l.length - k) 0 ⟨Nat.zero_le _, rfl⟩ ⟨rfl, trivial⟩ rfl fun k hk => ?_
    repeat (first | refine gG ?_ | refine zN1 (fun hlen => ?_) | refine zN2 (fun hlen => ?_) | refine zAl (fun _ => ?_))
    refine x_cond rfl (fun h => ?_) (fun h => ?_)
    · have hk' : k < l.length := by simpa using h
      have hk2 : k < r.length := hlr ▸ hk'
      obtain ⟨a, ha⟩ := nth hk'
      obtain ⟨b, hb⟩ := nth hk2
      have hp := hf a (List.mem_of_getElem? ha) b (List.mem_of_getElem? hb)
      have hstep : eqBy p (l.drop k) (r.drop k) = (p a b && eqBy p (l.drop (k + 1)) (r.drop (k + 1))) := eqBy_step ha hb
      clear h
      repeat (first | refine gG ?_ | refine zN1 (fun hlen => ?_) | refine zN2 (fun hlen => ?_) | refine zAl (fun _ => ?_))
      refine zIx (k) (hk') ?_
      repeat (first | refine gG ?_ | refine zN1 (fun hlen => ?_) | refine zN2 (fun hlen => ?_) | refine zAl (fun _ => ?_))
      refine zEl (Ar.at ha) (Ar.ts_len a) ?_
      generalize p a b = pq at *
      obtain ⟨⟨k1, n1, t1, l1⟩, ⟨kb, nb, tb, nsb, ysb, lb, rsb, pb⟩⟩ := a
      obtain ⟨⟨k1', n1', t1', l1'⟩, ⟨kb', nb', tb', nsb', ysb', lb', rsb', pb'⟩⟩ := b
      repeat (first | refine gG ?_ | refine zN1 (fun hlen => ?_) | refine zN2 (fun hlen => ?_) | refine zAl (fun _ => ?_))
      refine zIx (k) (hk2) ?_
      repeat (first | refine gG ?_ | refine zN1 (fun hlen => ?_) | refine zN2 (fun hlen => ?_) | refine zAl (fun _ => ?_))
      refine zEl (Ar.at hb) (Ar.ts_len _) ?_
      repeat (first | refine gG ?_ | refine zN1 (fun hlen => ?_) | refine zN2 (fun hlen => ?_) | refine zAl (fun _ => ?_))
      refine zCallc hp ?_ (hx := rzs_cons (by repeat (first | exact rzs_nil | apply rzs_cons | exact rz_c | exact rz_nil rfl | apply rz_agg | exact rz_own rfl | apply rz_fn | exact rz_ptr rfl | apply rz_tup)) (rzs_cons (by repeat (first | exact rzs_nil | apply rzs_cons | exact rz_c | exact rz_nil rfl | apply rz_agg | exact rz_own rfl | apply rz_fn | exact rz_ptr rfl | apply rz_tup)) rzs_self))
      rintro _ rfl
      cases pq
      · repeat (first | refine gG ?_ | refine zN1 (fun hlen => ?_) | refine zN2 (fun hlen => ?_) | refine zAl (fun _ => ?_))
        first | refine zR ?_ | refine zQ ?_
        rw [hk.2, hstep]
        rfl
      · repeat (first | refine gG ?_ | refine zN1 (fun hlen => ?_) | refine zN2 (fun hlen => ?_) | refine zAl (fun _ => ?_))
        exact ⟨k + 1, ⟨hk', by rw [hk.2, hstep, Bool.true_and]⟩, by omega, x_wkd 0 ⟨rfl, trivial⟩ rfl (by repeat (first | exact ag_refl | refine ag_upd rfl ?_ | refine ag_at rfl rfl ?_))⟩
    · have hk' : k = l.length := by
        have : ¬ k < l.length := by simpa using h
        omega
      repeat (first | refine gG ?_ | refine zN1 (fun hlen => ?_) | refine zN2 (fun hlen => ?_) | refine zAl (fun _ => ?_))
      first | refine zR ?_ | refine zQ ?_
      rw [hk.2, hk', List.drop_length, hlr, List.drop_length]
      rfl
set_option maxRecDepth 100000 in
set_option maxHeartbeats 4000000 in
theorem sameType_af (a : Y) : ∀ b : Y, AF Tryd.prog 82 [a.t, b.t] (· = .lit (.bool (a.same b))) := by
  induction a using Y.ind with
  | h k n l ih =>
    rintro ⟨k', n', l'⟩
    have hc := eqTys_af Y.same 82 [] l l' (fun a ha b _ => ih a ha b)
    have e : (Y.mk k n l).same (.mk k' n' l') = (decide (k = k') && (decide (n = n') && eqBy Y.same l l')) := by simp [Y.same, Y.sames_eq]
    generalize (Y.mk k n l).same (.mk k' n' l') = sm at *
    generalize eqBy Y.same l l' = c1 at *
    clear ih
    refine af_enter tok Tryd.func82 Tryd.ntmps82 Tryd.results82 rfl (by kernel_rfl) rfl rfl fun F hX => ?_
    cases d0 : decide (k = k')
    · rw [d0] at e
      repeat (first | refine gG ?_ | refine zBf ?_)
      first | refine zR ?_ | refine zQ ?_
      rw [e]
      rfl
    rw [d0, Bool.true_and] at e
    cases d1 : decide (n = n')
    · rw [d1] at e
      repeat (first | refine gG ?_ | refine zBf ?_)
      first | refine zR ?_ | refine zQ ?_
      rw [e]
      rfl
    rw [d1, Bool.true_and] at e
    cases c1
    · repeat (first | refine gG ?_ | refine zBf ?_)
      refine zCall (hc) ?_
      rintro _ rfl
      repeat (first | refine gG ?_ | refine zBf ?_)
      first | refine zR ?_ | refine zQ ?_
      rw [e]
      rfl
    repeat (first | refine gG ?_ | refine zBf ?_)
    refine zCall (hc) ?_
    rintro _ rfl
    repeat (first | refine gG ?_ | refine zBf ?_)
    first | refine zR ?_ | refine zQ ?_
    rw [e]
    rfl
set_option maxRecDepth 100000 in
set_option maxHeartbeats 4000000 in
theorem samePat_af (a : V) : ∀ b : V, AF Tryd.prog 102 [a.t, b.t] (· = .lit (.bool (a.alike b))) := by
  induction a using V.ind with
  | h k n t l ih =>
    rintro ⟨k', n', t', l'⟩
    have hc := eqPats_af V.alike 102 [] l l' (fun a ha b _ => ih a ha b)
    have e : (V.mk k n t l).alike (.mk k' n' t' l') = (decide (k = k') && (decide (n = n') && (decide (t = t') && eqBy V.alike l l'))) := by simp [V.alike, V.alikes_eq]
    generalize (V.mk k n t l).alike (.mk k' n' t' l') = sm at *
    generalize eqBy V.alike l l' = c1 at *
    clear ih
    refine af_enter tok Tryd.func102 Tryd.ntmps102 Tryd.results102 rfl (by kernel_rfl) rfl rfl fun F hX => ?_
    cases d0 : decide (k = k')
    · rw [d0] at e
      repeat (first | refine gG ?_ | refine zBf ?_)
      first | refine zR ?_ | refine zQ ?_
      rw [e]
      rfl
    rw [d0, Bool.true_and] at e
    cases d1 : decide (n = n')
    · rw [d1] at e
      repeat (first | refine gG ?_ | refine zBf ?_)
      first | refine zR ?_ | refine zQ ?_
      rw [e]
      rfl
    rw [d1, Bool.true_and] at e
    cases d2 : decide (t = t')
    · rw [d2] at e
      repeat (first | refine gG ?_ | refine zBf ?_)
      first | refine zR ?_ | refine zQ ?_
      rw [e]
      rfl
    rw [d2, Bool.true_and] at e
    cases c1
    · repeat (first | refine gG ?_ | refine zBf ?_)
      refine zCall (hc) ?_
      rintro _ rfl
      repeat (first | refine gG ?_ | refine zBf ?_)
      first | refine zR ?_ | refine zQ ?_
      rw [e]
      rfl
    repeat (first | refine gG ?_ | refine zBf ?_)
    refine zCall (hc) ?_
    rintro _ rfl
    repeat (first | refine gG ?_ | refine zBf ?_)
    first | refine zR ?_ | refine zQ ?_
    rw [e]
    rfl
set_option maxRecDepth 100000 in
set_option maxHeartbeats 4000000 in
theorem sameArm_af (p p' : V) (b b' : Ex) (hb : AF Tryd.prog 15 [b.t, b'.t] (· = .lit (.bool (b.same b')))) : AF Tryd.prog 101 [.agg (Ar.mk p b).ts, .agg (Ar.mk p' b').ts] (· = .lit (.bool ((Ar.mk p b).same (.mk p' b')))) := by
  have hp := samePat_af p p'
  have e : (Ar.mk p b).same (.mk p' b') = (p.alike p' && b.same b') := by simp [Ar.same]
  generalize (Ar.mk p b).same (.mk p' b') = sm at *
  generalize p.alike p' = c1 at *
  generalize b.same b' = c2 at *
  obtain ⟨kp, np, tp, lp⟩ := p
  obtain ⟨kq, nq, tq, lq⟩ := p'
  obtain ⟨kb, nb, tb, nsb, ysb, lb, rsb, pb⟩ := b
  obtain ⟨kc, nc, tc, nsc, ysc, lc, rsc, pc⟩ := b'
  refine af_enter tok Tryd.func101 Tryd.ntmps101 Tryd.results101 rfl (by kernel_rfl) rfl rfl fun F hX => ?_
  cases c1
  · repeat (first | refine gG ?_ | refine zBf ?_)
    refine zCall (hp) ?_
    rintro _ rfl
    repeat (first | refine gG ?_ | refine zBf ?_)
    first | refine zR ?_ | refine zQ ?_
    rw [e]
    rfl
  rw [Bool.true_and] at e
  cases c2
  · repeat (first | refine gG ?_ | refine zBf ?_)
    refine zCall (hp) ?_
    rintro _ rfl
    repeat (first | refine gG ?_ | refine zBf ?_)
    refine zCall (hb) ?_
    rintro _ rfl
    repeat (first | refine gG ?_ | refine zBf ?_)
    first | refine zR ?_ | refine zQ ?_
    rw [e]
    rfl
  repeat (first | refine gG ?_ | refine zBf ?_)
  refine zCall (hp) ?_
  rintro _ rfl
  repeat (first | refine gG ?_ | refine zBf ?_)
  refine zCall (hb) ?_
  rintro _ rfl
  repeat (first | refine gG ?_ | refine zBf ?_)
  first | refine zR ?_ | refine zQ ?_
  rw [e]
  rfl
set_option maxRecDepth 100000 in
set_option maxHeartbeats 4000000 in
theorem sameExpr_af (a : Ex) : ∀ b : Ex, AF Tryd.prog 15 [a.t, b.t] (· = .lit (.bool (a.same b))) := by
  induction a using Ex.ind with
  | h k n t ns ys l rs ps ih ihr =>
    rintro ⟨k', n', t', ns', ys', l', rs', ps'⟩
    have h1 := eqStrs_af ns ns'
    have h2 := eqTys_af Y.same 82 [] ys ys' (fun a _ b _ => sameType_af a b)
    have h3 := eqExs_af Ex.same 15 [] l l' (fun a ha b _ => ih a ha b)
    have h4 := eqArs_af Ar.same 101 [] rs rs' (fun a ha b _ => by
      obtain ⟨p, x⟩ := a
      obtain ⟨p', x'⟩ := b
      exact sameArm_af p p' x x' (ihr _ ha p x rfl x'))
    have e : (Ex.mk k n t ns ys l rs ps).same (.mk k' n' t' ns' ys' l' rs' ps') = (decide (k = k') && (decide (n = n') && (decide (t = t') && (eqBy eqStr ns ns' && (eqBy Y.same ys ys' && (eqBy Ex.same l l' && eqBy Ar.same rs rs')))))) := by simp [Ex.same, Ex.sames_eq, Ar.sames_eq]
    generalize (Ex.mk k n t ns ys l rs ps).same (.mk k' n' t' ns' ys' l' rs' ps') = sm at *
    generalize eqBy eqStr ns ns' = c1 at *
    generalize eqBy Y.same ys ys' = c2 at *
    generalize eqBy Ex.same l l' = c3 at *
    generalize eqBy Ar.same rs rs' = c4 at *
    clear ih ihr
    refine af_enter tok Tryd.func15 Tryd.ntmps15 Tryd.results15 rfl (by kernel_rfl) rfl rfl fun F hX => ?_
    cases d0 : decide (k = k')
    · rw [d0] at e
      repeat (first | refine gG ?_ | refine zBf ?_)
      first | refine zR ?_ | refine zQ ?_
      rw [e]
      rfl
    rw [d0, Bool.true_and] at e
    cases d1 : decide (n = n')
    · rw [d1] at e
      repeat (first | refine gG ?_ | refine zBf ?_)
      first | refine zR ?_ | refine zQ ?_
      rw [e]
      rfl
    rw [d1, Bool.true_and] at e
    cases d2 : decide (t = t')
    · rw [d2] at e
      repeat (first | refine gG ?_ | refine zBf ?_)
      first | refine zR ?_ | refine zQ ?_
      rw [e]
      rfl
    rw [d2, Bool.true_and] at e
    cases c1
    · repeat (first | refine gG ?_ | refine zBf ?_)
      refine zCall (h1) ?_
      rintro _ rfl
      repeat (first | refine gG ?_ | refine zBf ?_)
      first | refine zR ?_ | refine zQ ?_
      rw [e]
      rfl
    rw [Bool.true_and] at e
    cases c2
    · repeat (first | refine gG ?_ | refine zBf ?_)
      refine zCall (h1) ?_
      rintro _ rfl
      repeat (first | refine gG ?_ | refine zBf ?_)
      refine zCall (h2) ?_
      rintro _ rfl
      repeat (first | refine gG ?_ | refine zBf ?_)
      first | refine zR ?_ | refine zQ ?_
      rw [e]
      rfl
    rw [Bool.true_and] at e
    cases c3
    · repeat (first | refine gG ?_ | refine zBf ?_)
      refine zCall (h1) ?_
      rintro _ rfl
      repeat (first | refine gG ?_ | refine zBf ?_)
      refine zCall (h2) ?_
      rintro _ rfl
      repeat (first | refine gG ?_ | refine zBf ?_)
      refine zCall (h3) ?_
      rintro _ rfl
      repeat (first | refine gG ?_ | refine zBf ?_)
      first | refine zR ?_ | refine zQ ?_
      rw [e]
      rfl
    rw [Bool.true_and] at e
    cases c4
    · repeat (first | refine gG ?_ | refine zBf ?_)
      refine zCall (h1) ?_
      rintro _ rfl
      repeat (first | refine gG ?_ | refine zBf ?_)
      refine zCall (h2) ?_
      rintro _ rfl
      repeat (first | refine gG ?_ | refine zBf ?_)
      refine zCall (h3) ?_
      rintro _ rfl
      repeat (first | refine gG ?_ | refine zBf ?_)
      refine zCall (h4) ?_
      rintro _ rfl
      repeat (first | refine gG ?_ | refine zBf ?_)
      first | refine zR ?_ | refine zQ ?_
      rw [e]
      rfl
    repeat (first | refine gG ?_ | refine zBf ?_)
    refine zCall (h1) ?_
    rintro _ rfl
    repeat (first | refine gG ?_ | refine zBf ?_)
    refine zCall (h2) ?_
    rintro _ rfl
    repeat (first | refine gG ?_ | refine zBf ?_)
    refine zCall (h3) ?_
    rintro _ rfl
    repeat (first | refine gG ?_ | refine zBf ?_)
    refine zCall (h4) ?_
    rintro _ rfl
    repeat (first | refine gG ?_ | refine zBf ?_)
    first | refine zR ?_ | refine zQ ?_
    rw [e]
    rfl
end Go.Proofs.YtllgibfmddihgaaDoor
namespace Go.Proofs.YtllgibfmddihgaaDoor
open Go.RowKit
def Ar.pat : Ar → V
  | .mk p _ => p
def Ar.body : Ar → Ex
  | .mk _ b => b
def Ex.arms : Ex → List Ar
  | .mk _ _ _ _ _ _ rs _ => rs
def Ex.args : Ex → List Ex
  | .mk _ _ _ _ _ l _ _ => l
def Ex.nexts (e : Ex) : List Ex := e.args ++ e.arms.map Ar.body
def Im.bodies (i : Im) : List Ex := i.funcs.map Fu.body
def Pr.funs (p : Pr) : List Fu := p.impls.flatMap Im.funcs ++ p.funcs
def Pr.bodies (p : Pr) : List Ex := p.funs.map Fu.body ++ p.actors.map Ac.body
theorem grown0 {α : Type} (acc : List Ex) (f : α → Ex) (l : List α) : acc ++ (l.take 0).map f = acc := by simp
theorem grown_le {α : Type} (acc : List Ex) (f : α → Ex) (l : List α) (k : Nat) : (acc ++ (l.take k).map f).length ≤ acc.length + l.length := by simp only [List.length_append, List.length_map, List.length_take]; omega
theorem grown_len {α : Type} (acc : List Ex) (f : α → Ex) {l : List α} {k : Nat} {a : α} (h : l[k]? = some a) : (acc ++ (l.take (k + 1)).map f).length = (acc ++ (l.take k).map f).length + 1 := by
  obtain ⟨h1, rfl⟩ := List.getElem?_eq_some_iff.1 h
  simp only [List.length_append, List.length_map, List.length_take]; omega
theorem grown_all {α : Type} (acc : List Ex) (f : α → Ex) {l : List α} {k : Nat} {a : α} (h : l[k]? = some a) : Ex.all (acc ++ (l.take (k + 1)).map f) = Ex.all (acc ++ (l.take k).map f) ++ (f a).ts := by
  obtain ⟨h1, rfl⟩ := List.getElem?_eq_some_iff.1 h
  rw [List.take_succ_eq_append_getElem h1, List.map_append, ← List.append_assoc, Ex.all_app]
  simp [Ex.all]
theorem flatl_le {α β : Type} (f : α → List β) (l : List α) (k : Nat) : ((l.take k).flatMap f).length ≤ (l.flatMap f).length := by
  have := congrArg (fun r => (List.flatMap f r).length) (List.take_append_drop k l)
  simp only [List.flatMap_append, List.length_append] at this
  omega
end Go.Proofs.YtllgibfmddihgaaDoor
namespace Go.Proofs.YtllgibfmddihgaaDoor
open Go.RowKit
mutual
def Ex.walk : Ex → List Ex
  | .mk k n t ns ys l rs a => .mk k n t ns ys l rs a :: (Ex.walks l ++ Ar.walks rs)
def Ex.walks : List Ex → List Ex
  | [] => []
  | v :: r => v.walk ++ Ex.walks r
def Ar.walks : List Ar → List Ex
  | [] => []
  | .mk _ b :: r => b.walk ++ Ar.walks r
end
theorem Ex.walks_eq : ∀ l : List Ex, Ex.walks l = l.flatMap Ex.walk
  | [] => rfl
  | v :: l => by rw [Ex.walks, Ex.walks_eq l]; rfl
theorem Ar.walks_eq : ∀ l : List Ar, Ar.walks l = (l.map Ar.body).flatMap Ex.walk
  | [] => rfl
  | .mk p b :: l => by rw [Ar.walks, Ar.walks_eq l]; rfl
theorem Ex.walk_eq (e : Ex) : e.walk = e :: e.nexts.flatMap Ex.walk := by
  obtain ⟨k, n, t, ns, ys, l, rs, a⟩ := e
  rw [Ex.walk, Ex.walks_eq, Ar.walks_eq, Ex.nexts, List.flatMap_append]
  rfl
theorem Ex.len_walk : ∀ l : List Ex, l.length ≤ (l.flatMap Ex.walk).length
  | [] => Nat.le_refl _
  | v :: l => by
    have := Ex.len_walk l
    rw [List.flatMap_cons, List.length_append, Ex.walk_eq, List.length_cons, List.length_cons]
    omega
theorem dropr_len {α : Type} (acc : List Ex) (f : α → Ex) (l : List α) : acc ++ ((l.drop l.length).map f).reverse = acc := by simp
theorem downr_le {α : Type} (acc : List Ex) (f : α → Ex) (l : List α) (k : Nat) : (acc ++ ((l.drop k).map f).reverse).length ≤ acc.length + l.length := by simp
theorem downr {α : Type} (acc : List Ex) (f : α → Ex) {l : List α} {k : Nat} {a : α} (h : l[k]? = some a) : acc ++ ((l.drop k).map f).reverse = (acc ++ ((l.drop (k + 1)).map f).reverse) ++ [f a] := by
  obtain ⟨h1, rfl⟩ := List.getElem?_eq_some_iff.1 h
  rw [List.drop_eq_getElem_cons h1, List.map_cons, List.reverse_cons, List.append_assoc]
theorem downr_len {α : Type} (acc : List Ex) (f : α → Ex) {l : List α} {k : Nat} {a : α} (h : l[k]? = some a) : (acc ++ ((l.drop k).map f).reverse).length = (acc ++ ((l.drop (k + 1)).map f).reverse).length + 1 := by rw [downr acc f h, List.length_append]; rfl
theorem downr_all {α : Type} (acc : List Ex) (f : α → Ex) {l : List α} {k : Nat} {a : α} (h : l[k]? = some a) : Ex.all (acc ++ ((l.drop k).map f).reverse) = Ex.all (acc ++ ((l.drop (k + 1)).map f).reverse) ++ (f a).ts := by
  rw [downr acc f h, Ex.all_app, Ex.all_one]
theorem Ar.at_body {l : List Ar} {k : Nat} {v : Ar} (h : l[k]? = some v) : ((Ar.all l).drop (k * 12 + 4)).take 8 = v.body.ts := by
  have h1 := Ar.at h
  obtain ⟨p, e⟩ := v
  have h2 := congrArg (List.drop 4) h1
  rw [List.drop_take, List.drop_drop] at h2
  rw [h2, Ar.ts]
  simp [V.ts_len, Ar.body]
theorem all_take (S : List Ex) (x : Ex) : (Ex.all (S ++ [x])).take (S.length * 8) = Ex.all S := by
  have h : ∀ l : List Ex, (Ex.all l).length = l.length * 8 := by
    intro l
    induction l with
    | nil => rfl
    | cons a l ih => rw [Ex.all, List.length_append, ih, Ex.ts_len, List.length_cons]; omega
  rw [Ex.all_app, List.take_append_of_le_length (by rw [h]; exact Nat.le_refl _), List.take_of_length_le (by rw [h]; exact Nat.le_refl _)]
theorem all_next {O S W : List Ex} {x : Ex} (h : O ++ (S ++ [x]).reverse.flatMap Ex.walk = W) : (O ++ [x]) ++ ((S ++ (x.arms.map Ar.body).reverse) ++ x.args.reverse).reverse.flatMap Ex.walk = W := by
  rw [← h]
  simp only [List.reverse_append, List.reverse_reverse, List.flatMap_append, List.append_assoc, List.reverse_cons, List.reverse_nil, List.nil_append, List.singleton_append, List.flatMap_cons]
  rw [Ex.walk_eq x, Ex.nexts, List.flatMap_append]
  simp only [List.cons_append, List.append_assoc]
theorem all_fit {O S W : List Ex} (h : O ++ S.reverse.flatMap Ex.walk = W) : O.length + S.length ≤ W.length := by
  have := Ex.len_walk S.reverse
  rw [← h, List.length_append]
  rw [List.length_reverse] at this
  omega
set_option maxRecDepth 100000 in
set_option maxHeartbeats 8000000 in
theorem all_af (e : Ex) (hw : e.walk.length ≤ 1048576) : AF Tryd.prog 52 [e.t] (· = Ex.row e.walk) := by
  obtain ⟨W, hW⟩ : ∃ W, W = e.walk := ⟨_, rfl⟩
  rw [← hW] at hw ⊢
  obtain ⟨k0, n0, t0, ns0, ys0, l0, rs0, p0⟩ := e
  refine af_enter tok Tryd.func52 Tryd.ntmps52 Tryd.results52 rfl (by kernel_rfl) rfl rfl fun F hX => ?_
  repeat (first | refine gX ?_ | refine zN1 (fun hlen => ?_) | refine zN2 (fun hlen => ?_) | refine zAl (fun _ => ?_) | refine zBf ?_ | refine zAp (fun _ => ?_))
  refine zBo (fun v0 => ?_)
  repeat (first | refine gG ?_ | refine zN1 (fun hlen => ?_) | refine zN2 (fun hlen => ?_) | refine zAl (fun _ => ?_) | refine zBx (fun _ => ?_) | refine zAp (fun _ => ?_))
  refine x_own 4 40 8 rfl rfl rfl rfl rfl ?_
  refine x_loop [3, 4, 5, 6, 7, 10, 11, 12, 13, 14, 15, 16, 17, 18, 19, 20, 21, 22, 23, 24, 25, 26, 27, 28, 29, 30, 31, 32, 33, 34, 35, 36, 37, 38, 39, 40, 41, 42, 43, 44, 45, 46, 47, 48, 49, 50, 51, 52, 53, 54, 55, 56, 57, 58, 59, 60] (fun y : List Ex × List Ex × Value × Value => [(3, .own 0 y.2.2.1), (4, .own 1 y.2.2.2)]) (fun y => [.row y.2.2.1 40 8 y.1.length (Ex.all y.1), .row y.2.2.2 40 8 y.2.1.length (Ex.all y.2.1)])
    (fun y => y.2.1 ++ y.1.reverse.flatMap Ex.walk = W) (fun y => W.length - y.2.1.length) ([.mk k0 n0 t0 ns0 ys0 l0 rs0 p0], [], v0, .slice none 0 0) (by simp [hW]) ⟨rfl, rfl, trivial⟩ rfl ?_
  rintro ⟨S0, O, v, u⟩ hI
  dsimp only at hI ⊢
  repeat (first | refine gG ?_ | refine zN1 (fun hlen => ?_) | refine zN2 (fun hlen => ?_) | refine zAl (fun _ => ?_) | refine zBx (fun _ => ?_) | refine zAp (fun _ => ?_))
  refine x_cond rfl (fun h => ?_) (fun h => ?_)
  · obtain ⟨S, x, rfl⟩ : ∃ S x, S0 = S ++ [x] := by
      rcases List.eq_nil_or_concat S0 with rfl | ⟨S, x, rfl⟩
      · simp at h
      · exact ⟨S, x, by simp⟩
    have hx : (S ++ [x])[S.length]? = some x := by simp
    have e1 : (S ++ [x]).length = S.length + 1 := by simp
    have hnew := all_next hI
    have hfit := all_fit hnew
    have htk := all_take S x
    have htl1 : S.length + x.arms.length ≤ 1048576 := by simp only [List.length_append, List.length_reverse, List.length_map] at hfit; omega
    have htl2 : (S ++ (x.arms.map Ar.body).reverse).length + x.args.length ≤ 1048576 := by simp only [List.length_append, List.length_reverse, List.length_map] at hfit ⊢; omega
    have htl3 : O.length + 1 ≤ W.length := by simp only [List.length_append, List.length_cons, List.length_nil] at hfit; omega
    clear h hfit hI
    rw [e1]
    repeat (first | refine gG ?_ | refine zN1 (fun hlen => ?_) | refine zN2 (fun hlen => ?_) | refine zAl (fun _ => ?_) | refine zBx (fun _ => ?_) | refine zAp (fun _ => ?_))
    refine lo_sub rfl rfl (r := ((S.length : Nat) : Int)) (by rw [IntWalk.i64_in _ (by omega)]; omega) ?_
    repeat (first | refine gG ?_ | refine zN1 (fun hlen => ?_) | refine zN2 (fun hlen => ?_) | refine zAl (fun _ => ?_) | refine zBx (fun _ => ?_) | refine zAp (fun _ => ?_))
    refine zIxo S.length (show S.length < S.length + 1 by omega) ?_
    repeat (first | refine gG ?_ | refine zN1 (fun hlen => ?_) | refine zN2 (fun hlen => ?_) | refine zAl (fun _ => ?_) | refine zBx (fun _ => ?_) | refine zAp (fun _ => ?_))
    refine zElo (Ex.at hx) (Ex.ts_len x) ?_
    obtain ⟨kx, nx, tx, nsx, ysx, lx, rsx, px⟩ := x
    dsimp only [Ex.arms, Ex.args] at htl1 htl2 hnew
    repeat (first | refine gG ?_ | refine zN1 (fun hlen => ?_) | refine zN2 (fun hlen => ?_) | refine zAl (fun _ => ?_) | refine zBx (fun _ => ?_) | refine zAp (fun _ => ?_))
    rename_i b
    refine lo_sub rfl rfl (r := ((S.length : Nat) : Int)) (by rw [IntWalk.i64_in _ (by omega)]; omega) ?_
    repeat (first | refine gG ?_ | refine zN1 (fun hlen => ?_) | refine zN2 (fun hlen => ?_) | refine zAl (fun _ => ?_) | refine zBx (fun _ => ?_) | refine zAp (fun _ => ?_))
    refine zQh S.length (show S.length ≤ S.length + 1 by omega) (fun v1 => ?_)
    repeat (first | refine gG ?_ | refine zN1 (fun hlen => ?_) | refine zN2 (fun hlen => ?_) | refine zAl (fun _ => ?_) | refine zBx (fun _ => ?_) | refine zAp (fun _ => ?_))
    rename_i u1
    refine lo_sub rfl rfl (r := ((rsx.length : Nat) : Int) - 1) (by rw [IntWalk.i64_in _ (by omega)]) ?_
    repeat (first | refine gG ?_ | refine zN1 (fun hlen => ?_) | refine zN2 (fun hlen => ?_) | refine zAl (fun _ => ?_) | refine zBx (fun _ => ?_) | refine zAp (fun _ => ?_))
    refine x_loop [3, 6, 32, 33, 34, 35, 36, 37, 38, 39, 40, 41, 42, 43, 44] (fun y : Nat × Value => [(6, .c (.lit (.int .i64 (((y.1 : Nat) : Int) - 1)))), (3, .own 0 y.2)]) (fun y => [.row y.2 40 8 (S ++ ((rsx.drop y.1).map Ar.body).reverse).length (Ex.all (S ++ ((rsx.drop y.1).map Ar.body).reverse)), .row u1 40 8 (O.length + 1) (Ex.all O ++ Ex.ts (.mk kx nx tx nsx ysx lx rsx px)), .box b 40 [.c (.lit (.int .i64 kx)), .c (.lit (.int .i64 nx)), .c (.lit (.string tx)), .c (strRow nsx), .c (Y.row ysx), .c (Ex.row lx), .c (Ar.row rsx), .c (.lit (.int .i64 px))]])
      (fun y => y.1 ≤ rsx.length) (fun y => y.1) (rsx.length, v1) (Nat.le_refl _) ⟨rfl, rfl, trivial⟩ (by first | (simp only [dropr_len, htk]; done) | (simp only [dropr_len, htk]; rfl)) ?_
    rintro ⟨m, v2⟩ hm
    dsimp only at hm ⊢
    repeat (first | refine gG ?_ | refine zN1 (fun hlen => ?_) | refine zN2 (fun hlen => ?_) | refine zAl (fun _ => ?_) | refine zBx (fun _ => ?_) | refine zAp (fun _ => ?_))
    refine x_cond rfl (fun h => ?_) (fun h => ?_)
    · obtain ⟨m, rfl⟩ : ∃ m', m = m' + 1 := by
        have : (0 : Int) ≤ (m : Int) - 1 := of_decide_eq_true h
        exact ⟨m - 1, by omega⟩
      obtain ⟨r, hr⟩ := nth (show m < rsx.length by omega)
      have hle := downr_le (S) Ar.body rsx m
      have hl1 := downr_len (S) Ar.body hr
      have hc1 := downr_all (S) Ar.body hr
      have htot := htl1
      clear h
      repeat (first | refine gG ?_ | refine zN1 (fun hlen => ?_) | refine zN2 (fun hlen => ?_) | refine zAl (fun _ => ?_) | refine zBx (fun _ => ?_) | refine zAp (fun _ => ?_))
      refine zIx m (show m < rsx.length by omega) ?_ (hz := by omega)
      repeat (first | refine gG ?_ | refine zN1 (fun hlen => ?_) | refine zN2 (fun hlen => ?_) | refine zAl (fun _ => ?_) | refine zBx (fun _ => ?_) | refine zAp (fun _ => ?_))
      refine zEl (Ar.at_body hr) (Ex.ts_len _) ?_
      obtain ⟨⟨kp, np, tp, lp⟩, ⟨kb, nb, tb, nsb, ysb, lb, rsb, pb⟩⟩ := r
      repeat (first | refine gG ?_ | refine zN1 (fun hlen => ?_) | refine zN2 (fun hlen => ?_) | refine zAl (fun _ => ?_) | refine zBx (fun _ => ?_) | refine zAp (fun _ => ?_))
      refine lo_sub rfl rfl (r := ((m : Nat) : Int) - 1) (by rw [IntWalk.i64_in _ (by omega)]; omega) ?_
      repeat (first | refine gG ?_ | refine zN1 (fun hlen => ?_) | refine zN2 (fun hlen => ?_) | refine zAl (fun _ => ?_) | refine zBx (fun _ => ?_) | refine zAp (fun _ => ?_))
      exact ⟨(m, _), by simp only; omega, by simp only; omega, x_wkd 3 ⟨rfl, rfl, trivial⟩ (by simp only [hl1, hc1]; rfl) (by repeat (first | exact ag_refl | refine ag_upd rfl ?_ | refine ag_at rfl rfl ?_))⟩
    · have h0 : m = 0 := by
        have : ¬ (0 : Int) ≤ (m : Int) - 1 := of_decide_eq_false h
        omega
      subst h0
      clear h
      rw [List.drop_zero]
      repeat (first | refine gG ?_ | refine zN1 (fun hlen => ?_) | refine zN2 (fun hlen => ?_) | refine zAl (fun _ => ?_) | refine zBx (fun _ => ?_) | refine zAp (fun _ => ?_))
      refine lo_sub rfl rfl (r := ((lx.length : Nat) : Int) - 1) (by rw [IntWalk.i64_in _ (by omega)]) ?_
      repeat (first | refine gG ?_ | refine zN1 (fun hlen => ?_) | refine zN2 (fun hlen => ?_) | refine zAl (fun _ => ?_) | refine zBx (fun _ => ?_) | refine zAp (fun _ => ?_))
      refine x_loop [3, 7, 49, 50, 51, 52, 53, 54, 55, 56, 57, 58, 59, 60] (fun y : Nat × Value => [(7, .c (.lit (.int .i64 (((y.1 : Nat) : Int) - 1)))), (3, .own 0 y.2)]) (fun y => [.row y.2 40 8 ((S ++ (rsx.map Ar.body).reverse) ++ ((lx.drop y.1).map id).reverse).length (Ex.all ((S ++ (rsx.map Ar.body).reverse) ++ ((lx.drop y.1).map id).reverse)), .row u1 40 8 (O.length + 1) (Ex.all O ++ Ex.ts (.mk kx nx tx nsx ysx lx rsx px)), .box b 40 [.c (.lit (.int .i64 kx)), .c (.lit (.int .i64 nx)), .c (.lit (.string tx)), .c (strRow nsx), .c (Y.row ysx), .c (Ex.row lx), .c (Ar.row rsx), .c (.lit (.int .i64 px))]])
        (fun y => y.1 ≤ lx.length) (fun y => y.1) (lx.length, _) (Nat.le_refl _) ⟨rfl, rfl, trivial⟩ (by first | (simp only [dropr_len]; done) | (simp only [dropr_len]; rfl)) ?_
      rintro ⟨m, v2⟩ hm
      dsimp only at hm ⊢
      repeat (first | refine gG ?_ | refine zN1 (fun hlen => ?_) | refine zN2 (fun hlen => ?_) | refine zAl (fun _ => ?_) | refine zBx (fun _ => ?_) | refine zAp (fun _ => ?_))
      refine x_cond rfl (fun h => ?_) (fun h => ?_)
      · obtain ⟨m, rfl⟩ : ∃ m', m = m' + 1 := by
          have : (0 : Int) ≤ (m : Int) - 1 := of_decide_eq_true h
          exact ⟨m - 1, by omega⟩
        obtain ⟨r, hr⟩ := nth (show m < lx.length by omega)
        have hle := downr_le ((S ++ (rsx.map Ar.body).reverse)) id lx m
        have hl1 := downr_len ((S ++ (rsx.map Ar.body).reverse)) id hr
        have hc1 := downr_all ((S ++ (rsx.map Ar.body).reverse)) id hr
        have htot := htl2
        clear h
        repeat (first | refine gG ?_ | refine zN1 (fun hlen => ?_) | refine zN2 (fun hlen => ?_) | refine zAl (fun _ => ?_) | refine zBx (fun _ => ?_) | refine zAp (fun _ => ?_))
        refine zIx m (show m < lx.length by omega) ?_ (hz := by omega)
        repeat (first | refine gG ?_ | refine zN1 (fun hlen => ?_) | refine zN2 (fun hlen => ?_) | refine zAl (fun _ => ?_) | refine zBx (fun _ => ?_) | refine zAp (fun _ => ?_))
        refine zEl (Ex.at hr) (Ex.ts_len _) ?_
        obtain ⟨kb, nb, tb, nsb, ysb, lb, rsb, pb⟩ := r
        repeat (first | refine gG ?_ | refine zN1 (fun hlen => ?_) | refine zN2 (fun hlen => ?_) | refine zAl (fun _ => ?_) | refine zBx (fun _ => ?_) | refine zAp (fun _ => ?_))
        refine lo_sub rfl rfl (r := ((m : Nat) : Int) - 1) (by rw [IntWalk.i64_in _ (by omega)]; omega) ?_
        repeat (first | refine gG ?_ | refine zN1 (fun hlen => ?_) | refine zN2 (fun hlen => ?_) | refine zAl (fun _ => ?_) | refine zBx (fun _ => ?_) | refine zAp (fun _ => ?_))
        exact ⟨(m, _), by simp only; omega, by simp only; omega, x_wkd 3 ⟨rfl, rfl, trivial⟩ (by simp only [hl1, hc1]; rfl) (by repeat (first | exact ag_refl | refine ag_upd rfl ?_ | refine ag_at rfl rfl ?_))⟩
      · have h0 : m = 0 := by
          have : ¬ (0 : Int) ≤ (m : Int) - 1 := of_decide_eq_false h
          omega
        subst h0
        clear h
        rw [List.drop_zero]
        repeat (first | refine gG ?_ | refine zN1 (fun hlen => ?_) | refine zN2 (fun hlen => ?_) | refine zAl (fun _ => ?_) | refine zBx (fun _ => ?_) | refine zAp (fun _ => ?_))
        exact ⟨((S ++ (rsx.map Ar.body).reverse) ++ lx.reverse, O ++ [.mk kx nx tx nsx ysx lx rsx px], _, _), hnew, by simp only [List.length_append, List.length_cons, List.length_nil]; omega, x_wkd 2 ⟨rfl, rfl, trivial⟩ (by simp only [List.map_id_fun, id_eq, List.length_append, List.length_cons, List.length_nil, Ex.all_app, Ex.all_one]; rfl) (by repeat (first | exact ag_refl | refine ag_upd rfl ?_ | refine ag_at rfl rfl ?_))⟩
  · have h0 : S0 = [] := by
      have : ¬ (0 : Int) < (S0.length : Int) := of_decide_eq_false h
      exact List.length_eq_zero_iff.1 (by omega)
    subst h0
    simp only [List.reverse_nil, List.flatMap_nil, List.append_nil] at hI
    subst hI
    clear h
    repeat (first | refine gG ?_ | refine zN1 (fun hlen => ?_) | refine zN2 (fun hlen => ?_) | refine zAl (fun _ => ?_) | refine zBx (fun _ => ?_) | refine zAp (fun _ => ?_))
    first | refine zR ?_ | refine zQ ?_
    rfl
end Go.Proofs.YtllgibfmddihgaaDoor
namespace Go.Proofs.YtllgibfmddihgaaDoor
open Go.RowKit
mutual
def V.nodes : V → Nat
  | .mk _ _ _ l => 1 + V.nodesAll l
def V.nodesAll : List V → Nat
  | [] => 0
  | v :: r => v.nodes + V.nodesAll r
end
def V.kids : V → List V
  | .mk _ _ _ l => l
theorem V.nodesAll_app : ∀ l r : List V, V.nodesAll (l ++ r) = V.nodesAll l + V.nodesAll r
  | [], r => by simp [V.nodesAll]
  | v :: l, r => by rw [List.cons_append, V.nodesAll, V.nodesAll_app l r, V.nodesAll]; omega
theorem V.nodes_kids (v : V) : v.nodes = 1 + V.nodesAll v.kids := by cases v; rfl
theorem V.len_nodes : ∀ l : List V, l.length ≤ V.nodesAll l
  | [] => Nat.le_refl _
  | v :: l => by
    have := V.len_nodes l
    rw [List.length_cons, V.nodesAll, V.nodes_kids]
    omega
theorem V.at_kids {l : List V} {k : Nat} {v : V} (h : l[k]? = some v) : (V.all l)[k * 4 + 3]? = some (V.row v.kids) := by
  have h1 := congrArg (fun r : List T => r[3]?) (V.at h)
  obtain ⟨kv, nv, tv, lv⟩ := v
  simpa [List.getElem?_take, List.getElem?_drop, V.ts, V.kids, V.row] using h1
def Ar.pn (a : Ar) : Nat := a.pat.nodes
def Ex.count1 (x : Ex) : Nat := 1 + (x.arms.map Ar.pn).sum
def Ex.count (e : Ex) : Nat := (e.walk.map Ex.count1).sum
def Pr.count (p : Pr) : Nat := (p.bodies.map Ex.count).sum
theorem tsum_snoc {α : Type} (f : α → Nat) {l : List α} {k : Nat} {a : α} (h : l[k]? = some a) : ((l.take (k + 1)).map f).sum = ((l.take k).map f).sum + f a := by
  obtain ⟨h1, rfl⟩ := List.getElem?_eq_some_iff.1 h
  rw [List.take_succ_eq_append_getElem h1, List.map_append, List.sum_append]
  simp
theorem tsum_le {α : Type} (f : α → Nat) (l : List α) (k : Nat) : ((l.take k).map f).sum ≤ (l.map f).sum := by
  have := congrArg (fun r => (List.map f r).sum) (List.take_append_drop k l)
  simp only [List.map_append, List.sum_append] at this
  omega
theorem Ex.walk_count (e : Ex) : e.walk.length ≤ e.count := by
  have h : ∀ l : List Ex, l.length ≤ (l.map Ex.count1).sum := by
    intro l
    induction l with
    | nil => exact Nat.le_refl _
    | cons a l ih => rw [List.length_cons, List.map_cons, List.sum_cons, Ex.count1]; omega
  exact h e.walk
set_option maxRecDepth 100000 in
set_option maxHeartbeats 4000000 in
theorem pats_af (p : V) (hp : p.nodes ≤ 1048576) : AF Tryd.prog 134 [p.t] (fun r => ∃ O : List V, O.length = p.nodes ∧ r = V.row O) := by
  obtain ⟨n, hn⟩ : ∃ n, n = p.nodes := ⟨_, rfl⟩
  rw [← hn] at hp ⊢
  obtain ⟨k0, n0, t0, l0⟩ := p
  refine af_enter tok Tryd.func134 Tryd.ntmps134 Tryd.results134 rfl (by kernel_rfl) rfl rfl fun F hX => ?_
  repeat (first | refine gX ?_ | refine zN1 (fun hlen => ?_) | refine zN2 (fun hlen => ?_) | refine zBf ?_ | refine zAp (fun _ => ?_))
  refine zBo (fun v0 => ?_)
  repeat (first | refine gG ?_ | refine zN1 (fun hlen => ?_) | refine zN2 (fun hlen => ?_) | refine zBx (fun _ => ?_) | refine zAp (fun _ => ?_))
  refine x_loop [3, 4, 7, 8, 9, 10, 11, 12, 13, 14, 15, 16, 17, 18, 19] (fun y : List V × Nat × Value => [(3, .own 0 y.2.2), (4, .c (.lit (.int .i64 (y.2.1 : Nat))))]) (fun y => [.row y.2.2 109 4 y.1.length (V.all y.1)])
    (fun y => y.2.1 ≤ y.1.length ∧ y.2.1 + V.nodesAll (y.1.drop y.2.1) = n) (fun y => n - y.2.1) ([.mk k0 n0 t0 l0], 0, v0) ⟨Nat.zero_le _, by simp only [List.drop_zero, V.nodesAll]; omega⟩ ⟨rfl, rfl, trivial⟩ rfl ?_
  rintro ⟨O, i, v⟩ ⟨hi, hI⟩
  dsimp only at hi hI ⊢
  repeat (first | refine gG ?_ | refine zN1 (fun hlen => ?_) | refine zN2 (fun hlen => ?_) | refine zBx (fun _ => ?_) | refine zAp (fun _ => ?_))
  refine x_cond rfl (fun h => ?_) (fun h => ?_)
  · have hi' : i < O.length := by simpa using h
    obtain ⟨a, ha⟩ := nth hi'
    have hd : O.drop i = a :: O.drop (i + 1) := by
      obtain ⟨h1, rfl⟩ := List.getElem?_eq_some_iff.1 ha
      exact List.drop_eq_getElem_cons h1
    have h1 := V.nodes_kids a
    have h2 := V.len_nodes a.kids
    have h3 := V.len_nodes (O.drop (i + 1))
    rw [List.length_drop] at h3
    rw [hd, V.nodesAll] at hI
    have hnew : (i + 1) + V.nodesAll ((O ++ a.kids).drop (i + 1)) = n := by
      rw [List.drop_append_of_le_length (by omega), V.nodesAll_app]
      omega
    have htl : O.length + a.kids.length ≤ 1048576 := by omega
    have hk := V.at_kids ha
    clear h
    repeat (first | refine gG ?_ | refine zN1 (fun hlen => ?_) | refine zN2 (fun hlen => ?_) | refine zBx (fun _ => ?_) | refine zAp (fun _ => ?_))
    refine zIxo i hi' ?_
    repeat (first | refine gG ?_ | refine zN1 (fun hlen => ?_) | refine zN2 (fun hlen => ?_) | refine zBx (fun _ => ?_) | refine zAp (fun _ => ?_))
    refine zElo1 hk ?_
    generalize a.kids = l at *
    repeat (first | refine gG ?_ | refine zN1 (fun hlen => ?_) | refine zN2 (fun hlen => ?_) | refine zBx (fun _ => ?_) | refine zAp (fun _ => ?_))
    exact ⟨(O ++ l, i + 1, _), ⟨by simp only [List.length_append]; omega, hnew⟩, by simp only; omega, x_wkd 1 ⟨rfl, rfl, trivial⟩ (by simp only [List.length_append, V.all_app']; rfl) (by repeat (first | exact ag_refl | refine ag_upd rfl ?_ | refine ag_at rfl rfl ?_))⟩
  · have hi' : i = O.length := by
      have : ¬ i < O.length := by simpa using h
      omega
    subst hi'
    rw [List.drop_length, V.nodesAll, Nat.add_zero] at hI
    clear h
    repeat (first | refine gG ?_ | refine zN1 (fun hlen => ?_) | refine zN2 (fun hlen => ?_) | refine zBx (fun _ => ?_) | refine zAp (fun _ => ?_))
    first | refine zR ?_ | refine zQ ?_
    exact ⟨O, hI, rfl⟩
set_option maxRecDepth 100000 in
set_option maxHeartbeats 4000000 in
theorem sizeOf_af (e : Ex) (he : e.count ≤ 1048576) : AF Tryd.prog 50 [e.t] (· = .lit (.int .i64 (e.count : Nat))) := by
  have hc := all_af e (Nat.le_trans e.walk_count he)
  unfold Ex.count at he ⊢
  generalize e.walk = W at *
  obtain ⟨k0, n0, t0, ns0, ys0, l0, rs0, p0⟩ := e
  refine af_enter tok Tryd.func50 Tryd.ntmps50 Tryd.results50 rfl (by kernel_rfl) rfl rfl fun F hX => ?_
  repeat (first | refine gG ?_ | refine zN1 (fun hlen => ?_) | refine zN2 (fun hlen => ?_) | refine zAl (fun _ => ?_) | refine zBf ?_)
  refine zCall (hc) ?_
  rintro _ rfl
  repeat (first | refine gG ?_ | refine zN1 (fun hlen => ?_) | refine zN2 (fun hlen => ?_) | refine zAl (fun _ => ?_) | refine zBx (fun _ => ?_))
  refine x_drop 0 rfl ?_
  refine x_loop [3, 5, 7, 11, 12, 13, 14, 15, 16, 17, 18, 19, 20, 21, 22, 23, 24, 25, 26, 27, 28, 29, 30, 31] (fun k : Nat => [(11, .c (.lit (.int .i64 (k : Nat)))), (3, .c (.lit (.int .i64 ((((W.take k).map Ex.count1).sum : Nat) : Int))))]) (fun _ => []) (fun k => k ≤ W.length) (fun k => W.length - k) 0 (Nat.zero_le _) ⟨rfl, rfl, trivial⟩ rfl ?_
  intro k hk
  repeat (first | refine gG ?_ | refine zN1 (fun hlen => ?_) | refine zN2 (fun hlen => ?_) | refine zAl (fun _ => ?_) | refine zBx (fun _ => ?_))
  refine x_cond rfl (fun h => ?_) (fun h => ?_)
  · have hk' : k < W.length := by simpa using h
    obtain ⟨x, hx⟩ := nth hk'
    have hs1 := tsum_snoc Ex.count1 hx
    have hs2 := tsum_le Ex.count1 W (k + 1)
    have hs3 : x.count1 = 1 + (x.arms.map Ar.pn).sum := rfl
    clear h
    repeat (first | refine gG ?_ | refine zN1 (fun hlen => ?_) | refine zN2 (fun hlen => ?_) | refine zAl (fun _ => ?_) | refine zBx (fun _ => ?_))
    refine zIx (k) (hk') ?_
    repeat (first | refine gG ?_ | refine zN1 (fun hlen => ?_) | refine zN2 (fun hlen => ?_) | refine zAl (fun _ => ?_) | refine zBx (fun _ => ?_))
    refine zEl (Ex.at hx) (Ex.ts_len x) ?_
    generalize x.count1 = cx at *
    obtain ⟨kx, nx, tx, nsx, ysx, lx, rsx, px⟩ := x
    dsimp only [Ex.arms] at hs3
    generalize ((W.take k).map Ex.count1).sum = acc at *
    generalize hacc' : ((W.take (k + 1)).map Ex.count1).sum = acc' at *
    repeat (first | refine gG ?_ | refine zN1 (fun hlen => ?_) | refine zN2 (fun hlen => ?_) | refine zAl (fun _ => ?_) | refine zBx (fun _ => ?_))
    refine x_drop 0 rfl ?_
    refine x_loop [3, 7, 20, 21, 22, 23, 24, 25, 26, 27, 28, 29, 30] (fun j : Nat => [(20, .c (.lit (.int .i64 (j : Nat)))), (3, .c (.lit (.int .i64 ((acc + 1 + ((rsx.take j).map Ar.pn).sum : Nat) : Int))))]) (fun _ => []) (fun j => j ≤ rsx.length) (fun j => rsx.length - j) 0 (Nat.zero_le _) ⟨rfl, by simp only [List.take_zero, List.map_nil, List.sum_nil, Nat.add_zero]; rfl, trivial⟩ rfl ?_
    intro j hj
    repeat (first | refine gG ?_ | refine zN1 (fun hlen => ?_) | refine zN2 (fun hlen => ?_) | refine zAl (fun _ => ?_) | refine zBx (fun _ => ?_))
    refine x_cond rfl (fun h => ?_) (fun h => ?_)
    · have hj' : j < rsx.length := by simpa using h
      obtain ⟨r, hr⟩ := nth hj'
      have ht1 := tsum_snoc Ar.pn hr
      have ht2 := tsum_le Ar.pn rsx (j + 1)
      rw [show Ar.pn r = r.pat.nodes from rfl] at ht1
      have hpc := pats_af r.pat (by omega)
      generalize r.pat.nodes = pn at *
      clear h
      repeat (first | refine gG ?_ | refine zN1 (fun hlen => ?_) | refine zN2 (fun hlen => ?_) | refine zAl (fun _ => ?_) | refine zBx (fun _ => ?_))
      refine zIx (j) (hj') ?_
      repeat (first | refine gG ?_ | refine zN1 (fun hlen => ?_) | refine zN2 (fun hlen => ?_) | refine zAl (fun _ => ?_) | refine zBx (fun _ => ?_))
      refine zEl (Ar.at hr) (Ar.ts_len r) ?_
      obtain ⟨⟨kp, np, tp, lp⟩, ⟨kb, nb, tb, nsb, ysb, lb, rsb, pb⟩⟩ := r
      dsimp only [Ar.pat] at hpc
      repeat (first | refine gG ?_ | refine zN1 (fun hlen => ?_) | refine zN2 (fun hlen => ?_) | refine zAl (fun _ => ?_) | refine zBx (fun _ => ?_))
      refine zCall (hpc) ?_
      rintro _ ⟨O, hO, rfl⟩
      repeat (first | refine gG ?_ | refine zN1 (fun hlen => ?_) | refine zN2 (fun hlen => ?_) | refine zAl (fun _ => ?_) | refine zBx (fun _ => ?_))
      refine lo_add rfl rfl (r := ((acc + 1 + ((rsx.take j).map Ar.pn).sum + pn : Nat) : Int)) (by rw [hO, IntWalk.i64_in _ (by omega)]; omega) ?_
      repeat (first | refine gG ?_ | refine zN1 (fun hlen => ?_) | refine zN2 (fun hlen => ?_) | refine zAl (fun _ => ?_) | refine zBx (fun _ => ?_))
      exact ⟨j + 1, hj', by omega, x_wkd 0 ⟨rfl, by rw [ht1, ← Nat.add_assoc]; rfl, trivial⟩ rfl (by repeat (first | exact ag_refl | refine ag_upd rfl ?_ | refine ag_at rfl rfl ?_))⟩
    · have hj' : j = rsx.length := by
        have : ¬ j < rsx.length := by simpa using h
        omega
      subst hj'
      clear h
      rw [List.take_length]
      repeat (first | refine gG ?_ | refine zN1 (fun hlen => ?_) | refine zN2 (fun hlen => ?_) | refine zAl (fun _ => ?_) | refine zBx (fun _ => ?_))
      exact ⟨k + 1, hk', by omega, x_wkd 0 ⟨rfl, by rw [hacc', hs1, hs3, ← Nat.add_assoc]; rfl, trivial⟩ rfl (by repeat (first | exact ag_refl | refine ag_upd rfl ?_ | refine ag_at rfl rfl ?_))⟩
  · have hk' : k = W.length := by
      have : ¬ k < W.length := by simpa using h
      omega
    subst hk'
    clear h
    rw [List.take_length]
    repeat (first | refine gG ?_ | refine zN1 (fun hlen => ?_) | refine zN2 (fun hlen => ?_) | refine zAl (fun _ => ?_) | refine zBx (fun _ => ?_))
    first | refine zR ?_ | refine zQ ?_
    rfl
end Go.Proofs.YtllgibfmddihgaaDoor
namespace Go.Proofs.YtllgibfmddihgaaDoor
open Go.RowKit
theorem dec_le : ∀ (n u : Nat), u < 10 ^ (n + 1) → (Lib.decDigits u).length ≤ n + 1
  | 0, u, h => by rw [Lib.decDigits, dif_pos (by simpa using h)]; exact Nat.le_refl _
  | n + 1, u, h => by
    rw [Lib.decDigits]
    split
    · simp
    · have := dec_le n (u / 10) (by rw [Nat.pow_succ] at h; omega)
      rw [List.length_append]
      simp only [List.length_cons, List.length_nil]
      omega
theorem numB_le {n : Int} (h : inI n) : (numB n).length ≤ 21 := by
  obtain ⟨h1, h2⟩ := h
  have key : ∀ u : Nat, u ≤ 9223372036854775808 → (Lib.decDigits u).length ≤ 19 := fun u hu => dec_le 18 u (by omega)
  unfold numB Lib.itoa
  rw [List.length_append]
  split
  · rw [List.length_cons]
    have := key n.natAbs (by omega)
    simp only [List.length_cons, List.length_nil]
    first | omega | (have := key (-n).toNat (by omega); omega)
  · have := key n.natAbs (by omega)
    simp only [List.length_cons, List.length_nil]
    first | omega | (have := key n.toNat (by omega); omega)
theorem numB_far {n : Int} (h : far n ≤ 1048576) : (numB n).length ≤ 21 * far n := by
  have := numB_le (far_in h)
  have := far_pos n
  omega
theorem numB_nat {n : Nat} (h : n ≤ 1048576) : (numB (n : Int)).length ≤ 21 := numB_le (inI_nat (by omega))
theorem textB_le {s : ByteArray} (h : s.size ≤ 1048576) : (textB s).length ≤ 21 * (s.size + 1) := by
  have h1 := numB_nat h
  have h2 : s.data.toList.length = s.size := rfl
  rw [textB, List.length_append]
  omega
theorem flat21 {α : Type} (f : α → List UInt8) (μ : α → Nat) : ∀ l : List α, (∀ a ∈ l, (f a).length ≤ 21 * μ a) → (l.flatMap f).length ≤ 21 * (l.map μ).sum
  | [], _ => Nat.le_refl _
  | a :: l, h => by
    have h1 := h a (by simp)
    have h2 := flat21 f μ l (fun x hx => h x (List.mem_cons_of_mem _ hx))
    rw [List.flatMap_cons, List.length_append, List.map_cons, List.sum_cons]
    omega
theorem textsB_le {l : List ByteArray} (h : strSize l ≤ 1048576) : (textsB l).length ≤ 21 * strSize l :=
  flat21 textB (fun s => s.size + 1) l fun a ha => textB_le (by have := sum_mem' (fun s : ByteArray => s.size + 1) ha; unfold strSize at h; omega)
theorem namesB_le {l : List ByteArray} (h : strSize l ≤ 1048576) : (namesB l).length ≤ 21 * (strSize l + 1) := by
  have h1 := textsB_le h
  have h2 := numB_nat (Nat.le_trans (strSize_len l) h)
  rw [namesB, List.length_append]
  omega
theorem Y.mass_pos (v : Y) : 1 ≤ v.mass := by cases v; rename_i k _ _; have := far_pos k; simp only [Y.mass]; omega
theorem V.mass_pos (v : V) : 1 ≤ v.mass := by cases v; rename_i k _ _ _; have := far_pos k; simp only [V.mass]; omega
theorem Ex.mass_pos (v : Ex) : 1 ≤ v.mass := by cases v; rename_i k _ _ _ _ _ _ _; have := far_pos k; simp only [Ex.mass]; omega
theorem Ar.mass_pos (v : Ar) : 1 ≤ v.mass := by cases v; rename_i p _; have := V.mass_pos p; simp only [Ar.mass]; omega
theorem Y.mark_le (v : Y) : v.mass ≤ 1048576 → v.mark.length ≤ 21 * v.mass := by
  induction v using Y.ind with
  | h k n l ih =>
    intro h
    simp only [Y.mass, Y.masses_sum] at h ⊢
    have h1 := flat21 Y.mark Y.mass l (fun x hx => ih x hx (by have := sum_mem' Y.mass hx; omega))
    have h2 := numB_nat (n := l.length) (by have := len_sum' Y.mass Y.mass_pos l; omega)
    have h3 := numB_far (n := k) (by omega)
    have h4 := textB_le (s := n) (by omega)
    simp only [Y.mark, Y.marks_eq, List.length_append]
    omega
theorem V.mark_le (v : V) : v.mass ≤ 1048576 → v.mark.length ≤ 21 * v.mass := by
  induction v using V.ind with
  | h k n t l ih =>
    intro h
    simp only [V.mass, V.masses_sum] at h ⊢
    have h1 := flat21 V.mark V.mass l (fun x hx => ih x hx (by have := sum_mem' V.mass hx; omega))
    have h2 := numB_nat (n := l.length) (by have := len_sum' V.mass V.mass_pos l; omega)
    have h3 := numB_far (n := k) (by omega)
    have h5 := numB_far (n := n) (by omega)
    have h4 := textB_le (s := t) (by omega)
    simp only [V.mark, V.marks_eq, List.length_append]
    omega
theorem Ex.mark_le (v : Ex) : v.mass ≤ 1048576 → v.mark.length ≤ 21 * v.mass := by
  induction v using Ex.ind with
  | h k n t ns ys l rs a ih1 ih2 =>
    intro h
    simp only [Ex.mass, Ex.masses_sum, Ar.masses_sum, Y.masses_sum] at h ⊢
    have h1 := numB_far (n := k) (by omega)
    have h2 := numB_far (n := n) (by omega)
    have h3 := textB_le (s := t) (by omega)
    have h4 := textsB_le (l := ns) (by omega)
    have h5 := flat21 Y.mark Y.mass ys (fun x hx => Y.mark_le x (by have := sum_mem' Y.mass hx; omega))
    have h6 := flat21 Ex.mark Ex.mass l (fun x hx => ih1 x hx (by have := sum_mem' Ex.mass hx; omega))
    have h7 := flat21 Ar.mark Ar.mass rs (fun x hx => by
      have h2 := sum_mem' Ar.mass hx
      obtain ⟨p, b⟩ := x
      simp only [Ar.mass] at h2
      have h8 := p.mark_le (by omega)
      have h9 := ih2 _ hx p b rfl (by omega)
      simp only [Ar.mark, Ar.mass, List.length_append]
      omega)
    have g1 := numB_nat (n := ns.length) (by have := strSize_len ns; omega)
    have g2 := numB_nat (n := ys.length) (by have := len_sum' Y.mass Y.mass_pos ys; omega)
    have g3 := numB_nat (n := l.length) (by have := len_sum' Ex.mass Ex.mass_pos l; omega)
    have g4 := numB_nat (n := rs.length) (by have := len_sum' Ar.mass Ar.mass_pos rs; omega)
    simp only [Ex.mark, Ex.marks_eq, Ar.marks_eq, List.length_append]
    omega
theorem typesB_le {l : List Y} (h : (l.map Y.mass).sum ≤ 1048576) : (typesB l).length ≤ 21 * ((l.map Y.mass).sum + 1) := by
  have h1 := flat21 Y.mark Y.mass l (fun x hx => Y.mark_le x (by have := sum_mem' Y.mass hx; omega))
  have h2 := numB_nat (n := l.length) (by have := len_sum' Y.mass Y.mass_pos l; omega)
  rw [typesB, List.length_append]
  omega
theorem Us.mass_pos (v : Us) : 1 ≤ v.mass := by unfold Us.mass; omega
theorem Mk.mass_pos (v : Mk) : 1 ≤ v.mass := by unfold Mk.mass; omega
theorem Da.mass_pos (v : Da) : 1 ≤ v.mass := by unfold Da.mass; omega
theorem Fu.mass_pos (v : Fu) : 1 ≤ v.mass := by unfold Fu.mass; omega
theorem Tr.mass_pos (v : Tr) : 1 ≤ v.mass := by unfold Tr.mass; omega
theorem Im.mass_pos (v : Im) : 1 ≤ v.mass := by unfold Im.mass; omega
theorem Ac.mass_pos (v : Ac) : 1 ≤ v.mass := by unfold Ac.mass; omega
theorem Us.mark_le (v : Us) (h : v.mass ≤ 1048576) : v.mark.length ≤ 21 * v.mass := by
  unfold Us.mass at h ⊢
  have h1 := textB_le (s := v.name) (by omega)
  have h2 := numB_far (n := v.low) (by omega)
  have h3 := numB_far (n := v.high) (by omega)
  simp only [Us.mark, List.length_append]
  omega
theorem Mk.mark_le (v : Mk) (h : v.mass ≤ 1048576) : v.mark.length ≤ 21 * v.mass := by
  unfold Mk.mass at h ⊢
  have h1 := textB_le (s := v.name) (by omega)
  have h2 := typesB_le (l := v.args) (by omega)
  simp only [Mk.mark, List.length_append]
  omega
theorem Da.mark_le (v : Da) (h : v.mass ≤ 1048576) : v.mark.length ≤ 21 * v.mass := by
  unfold Da.mass at h ⊢
  have h1 := textB_le (s := v.name) (by omega)
  have h2 := namesB_le (l := v.params) (by omega)
  have h3 := flat21 Mk.mark Mk.mass v.makes (fun x hx => Mk.mark_le x (by have := sum_mem' Mk.mass hx; omega))
  have h4 := numB_nat (n := v.makes.length) (by have := len_sum' Mk.mass Mk.mass_pos v.makes; omega)
  simp only [Da.mark, List.length_append]
  omega
theorem Fu.mark_le (v : Fu) (h : v.mass ≤ 1048576) : v.mark.length ≤ 21 * v.mass := by
  unfold Fu.mass at h ⊢
  have h1 := textB_le (s := v.name) (by omega)
  have h2 := namesB_le (l := v.params) (by omega)
  have h3 := namesB_le (l := v.names) (by omega)
  have h4 := typesB_le (l := v.types) (by omega)
  have h5 := v.out.mark_le (by omega)
  have h6 := v.body.mark_le (by omega)
  simp only [Fu.mark, List.length_append]
  omega
theorem funcsB_le {l : List Fu} (h : (l.map Fu.mass).sum ≤ 1048576) : (funcsB l).length ≤ 21 * ((l.map Fu.mass).sum + 1) := by
  have h1 := flat21 Fu.mark Fu.mass l (fun x hx => Fu.mark_le x (by have := sum_mem' Fu.mass hx; omega))
  have h2 := numB_nat (n := l.length) (by have := len_sum' Fu.mass Fu.mass_pos l; omega)
  rw [funcsB, List.length_append]
  omega
theorem Tr.mark_le (v : Tr) (h : v.mass ≤ 1048576) : v.mark.length ≤ 21 * v.mass := by
  unfold Tr.mass at h ⊢
  have h1 := textB_le (s := v.name) (by omega)
  have h2 := funcsB_le (l := v.funcs) (by omega)
  simp only [Tr.mark, List.length_append]
  omega
theorem Im.mark_le (v : Im) (h : v.mass ≤ 1048576) : v.mark.length ≤ 21 * v.mass := by
  unfold Im.mass at h ⊢
  have h1 := textB_le (s := v.trait) (by omega)
  have h3 := textB_le (s := v.dat) (by omega)
  have h2 := funcsB_le (l := v.funcs) (by omega)
  simp only [Im.mark, List.length_append]
  omega
theorem Ac.mark_le (v : Ac) (h : v.mass ≤ 1048576) : v.mark.length ≤ 21 * v.mass := by
  unfold Ac.mass at h ⊢
  have h1 := textB_le (s := v.name) (by omega)
  have h3 := namesB_le (l := v.names) (by omega)
  have h4 := typesB_le (l := v.types) (by omega)
  have h5 := v.msg.mark_le (by omega)
  have h6 := v.body.mark_le (by omega)
  simp only [Ac.mark, List.length_append]
  omega
theorem Pr.mark_le (v : Pr) (h : v.mass ≤ 1048576) : v.mark.length ≤ 21 * v.mass := by
  unfold Pr.mass at h ⊢
  have h1 := textB_le (s := v.name) (by omega)
  have h2 := numB_far (n := v.version) (by omega)
  have h3 := flat21 Us.mark Us.mass v.uses (fun x hx => Us.mark_le x (by have := sum_mem' Us.mass hx; omega))
  have h4 := flat21 Da.mark Da.mass v.datas (fun x hx => Da.mark_le x (by have := sum_mem' Da.mass hx; omega))
  have h5 := flat21 Tr.mark Tr.mass v.traits (fun x hx => Tr.mark_le x (by have := sum_mem' Tr.mass hx; omega))
  have h6 := flat21 Im.mark Im.mass v.impls (fun x hx => Im.mark_le x (by have := sum_mem' Im.mass hx; omega))
  have h7 := funcsB_le (l := v.funcs) (by omega)
  have h8 := flat21 Ac.mark Ac.mass v.actors (fun x hx => Ac.mark_le x (by have := sum_mem' Ac.mass hx; omega))
  have g1 := numB_nat (n := v.uses.length) (by have := len_sum' Us.mass Us.mass_pos v.uses; omega)
  have g2 := numB_nat (n := v.datas.length) (by have := len_sum' Da.mass Da.mass_pos v.datas; omega)
  have g3 := numB_nat (n := v.traits.length) (by have := len_sum' Tr.mass Tr.mass_pos v.traits; omega)
  have g4 := numB_nat (n := v.impls.length) (by have := len_sum' Im.mass Im.mass_pos v.impls; omega)
  have g5 := numB_nat (n := v.actors.length) (by have := len_sum' Ac.mass Ac.mass_pos v.actors; omega)
  simp only [Pr.mark, List.length_append]
  omega
theorem sumle {α : Type} (f g : α → Nat) : ∀ l : List α, (∀ a ∈ l, f a ≤ g a) → (l.map f).sum ≤ (l.map g).sum
  | [], _ => Nat.le_refl _
  | a :: l, h => by
    have h1 := h a (by simp)
    have h2 := sumle f g l (fun x hx => h x (List.mem_cons_of_mem _ hx))
    rw [List.map_cons, List.sum_cons, List.map_cons, List.sum_cons]
    omega
theorem V.nodesAll_sum : ∀ l : List V, V.nodesAll l = (l.map V.nodes).sum
  | [] => rfl
  | v :: l => by rw [V.nodesAll, V.nodesAll_sum l]; rfl
theorem V.nodes_le (v : V) : v.nodes ≤ v.mass := by
  induction v using V.ind with
  | h k n t l ih =>
    have := far_pos k
    have h := sumle V.nodes V.mass l ih
    simp only [V.nodes, V.nodesAll_sum, V.mass, V.masses_sum]
    omega
theorem wsum_flat (l : List Ex) : ((l.flatMap Ex.walk).map Ex.count1).sum = (l.map Ex.count).sum := by
  induction l with
  | nil => rfl
  | cons a l ih => rw [List.flatMap_cons, List.map_append, List.sum_append, ih, List.map_cons, List.sum_cons]; rfl
theorem Ex.count_eq (e : Ex) : e.count = e.count1 + (e.nexts.map Ex.count).sum := by
  rw [Ex.count, Ex.walk_eq, List.map_cons, List.sum_cons, wsum_flat]
theorem arsum (rs : List Ar) : (rs.map Ar.pn).sum + ((rs.map Ar.body).map Ex.count).sum = (rs.map fun r => r.pn + r.body.count).sum := by
  induction rs with
  | nil => rfl
  | cons a l ih => simp only [List.map_cons, List.sum_cons]; omega
theorem Ex.count_le (e : Ex) : e.count ≤ e.mass := by
  induction e using Ex.ind with
  | h k n t ns ys l rs a ih1 ih2 =>
    have h0 := far_pos k
    have h1 := sumle Ex.count Ex.mass l ih1
    have h2 := sumle (fun r : Ar => r.pn + r.body.count) Ar.mass rs (fun r hr => by
      obtain ⟨p, b⟩ := r
      have := ih2 _ hr p b rfl
      have := p.nodes_le
      simp only [Ar.pn, Ar.pat, Ar.body, Ar.mass]
      omega)
    have h3 := arsum rs
    rw [Ex.count_eq]
    simp only [Ex.count1, Ex.nexts, Ex.args, Ex.arms, Ex.mass, Ex.masses_sum, Ar.masses_sum, List.map_append, List.sum_append]
    omega
theorem fsum (l : List Im) : ((l.flatMap Im.funcs).map Fu.mass).sum ≤ (l.map Im.mass).sum := by
  induction l with
  | nil => exact Nat.le_refl _
  | cons a l ih => simp only [List.flatMap_cons, List.map_append, List.sum_append, List.map_cons, List.sum_cons, Im.mass]; omega
theorem Pr.masses (p : Pr) : (p.bodies.map Ex.mass).sum ≤ p.mass := by
  have h1 := fsum p.impls
  have h2 := sumle (fun f : Fu => f.body.mass) Fu.mass p.funs (fun f _ => by unfold Fu.mass; omega)
  have h3 := sumle (fun f : Ac => f.body.mass) Ac.mass p.actors (fun f _ => by unfold Ac.mass; omega)
  have e1 : (p.funs.map Fu.mass).sum = ((p.impls.flatMap Im.funcs).map Fu.mass).sum + (p.funcs.map Fu.mass).sum := by rw [Pr.funs, List.map_append, List.sum_append]
  rw [Pr.bodies, List.map_append, List.sum_append, List.map_map, List.map_map]
  unfold Pr.mass
  have e2 : (Ex.mass ∘ Fu.body) = fun f : Fu => f.body.mass := rfl
  have e3 : (Ex.mass ∘ Ac.body) = fun f : Ac => f.body.mass := rfl
  rw [e2, e3]
  omega
theorem Pr.count_le (p : Pr) : p.count ≤ p.mass := Nat.le_trans (sumle Ex.count Ex.mass p.bodies fun e _ => e.count_le) p.masses
end Go.Proofs.YtllgibfmddihgaaDoor
