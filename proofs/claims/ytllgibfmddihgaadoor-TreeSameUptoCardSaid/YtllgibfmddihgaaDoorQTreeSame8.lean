/-
  Texts of this proof, part 8: Tmg.
-/
import Derived.Test.YtllgibfmddihgaaDoorQTreeSame7
import Derived.Laws.Strings2
import Derived.Lib.AppendStr
import Derived.Lib.MinMax
import Derived.MapKept
namespace Go.Proofs.YtllgibfmddihgaaDoor
open Go.RowKit
set_option maxRecDepth 100000 in
set_option maxHeartbeats 4000000 in
theorem eqTys_af (p : Y → Y → Bool) (f : FuncId) (cap : List T) (l r : List Y) (hf : ∀ a ∈ l, ∀ b ∈ r, AF Tryd.prog f (.agg (Y.ts a) :: .agg (Y.ts b) :: cap) (· = .lit (.bool (p a b)))) :
    AF Tryd.prog 81 [Y.row l, Y.row r, .fn (.func f) cap] (· = .lit (.bool (eqBy p l r))) := by
  refine af_enter tok Tryd.func81 Tryd.ntmps81 Tryd.results81 rfl (by kernel_rfl) rfl rfl fun F hX => ?_
  repeat (first | refine gG ?_ | refine zN1 (fun hlen => ?_) | refine zN2 (fun hlen => ?_) | refine zAl (fun _ => ?_))
  refine x_cond rfl (fun h => ?_) (fun h => ?_)
  · repeat (first | refine gG ?_ | refine zN1 (fun hlen => ?_) | refine zN2 (fun hlen => ?_) | refine zAl (fun _ => ?_))
    first | refine zR ?_ | refine zQ ?_
    have : l.length ≠ r.length := by have := h; simp at this; omega
    rw [eqBy_len this]
    rfl
  · have hlr : l.length = r.length := by have := h; simp at this; omega
    clear h
    repeat (first | refine gG ?_ | refine zN1 (fun hlen => ?_) | refine zN2 (fun hlen => ?_) | refine zAl (fun _ => ?_))
    refine x_loop [6, 7, 8, 9, 17, 18, 19, 20, 21, 22, 23, 24, 25, 26, 27, 28, 29, 30, 31] (fun k : Nat => [(17, .c (.lit (.int .i64 k)))]) (fun _ => []) (fun k => k ≤ l.length ∧ eqBy p l r = eqBy p (l.drop k) (r.drop k)) (fun k => l.length - k) 0 ⟨Nat.zero_le _, rfl⟩ ⟨rfl, trivial⟩ rfl fun k hk => ?_
    repeat (first | refine gG ?_ | refine zN1 (fun hlen => ?_) | refine zN2 (fun hlen => ?_) | refine zAl (fun _ => ?_))
    refine x_cond rfl (fun h => ?_) (fun h => ?_)
    · have hk' : k < l.length := by simpa using h
      have hk2 : k < r.length := hlr ▸ hk'
      obtain ⟨a, ha⟩ := nth hk'
      obtain ⟨b, hb⟩ := nth hk2
      have hp := hf a (List.mem_of_getElem? ha) b (List.mem_of_getElem? hb)
      have hstep : eqBy p (l.drop k) (r.drop k) = (p a b && eqBy p (l.drop (k + 1)) (r.drop (k + 1))) := eqBy_step ha hb
      clear h
      repeat (first | refine gG ?_ | refine zN1 (fun hlen => ?_) | refine zN2 (fun hlen => ?_) | refine zAl (fun _ => ?_))
      refine zIx (k) (hk') ?_
      repeat (first | refine gG ?_ | refine zN1 (fun hlen => ?_) | refine zN2 (fun hlen => ?_) | refine zAl (fun _ => ?_))
      refine zEl (Y.at ha) (Y.ts_len a) ?_
      generalize p a b = pq at *
      obtain ⟨k1, n1, l1⟩ := a
      obtain ⟨k1', n1', l1'⟩ := b
      repeat (first | refine gG ?_ | refine zN1 (fun hlen => ?_) | refine zN2 (fun hlen => ?_) | refine zAl (fun _ => ?_))
      refine zIx (k) (hk2) ?_
      repeat (first | refine gG ?_ | refine zN1 (fun hlen => ?_) | refine zN2 (fun hlen => ?_) | refine zAl (fun _ => ?_))
      refine zEl (Y.at hb) (Y.ts_len _) ?_
      repeat (first | refine gG ?_ | refine zN1 (fun hlen => ?_) | refine zN2 (fun hlen => ?_) | refine zAl (fun _ => ?_))
      refine zCallc hp ?_ (hx := rzs_cons (by repeat (first | exact rzs_nil | apply rzs_cons | exact rz_c | exact rz_nil rfl | apply rz_agg | exact rz_own rfl | apply rz_fn | exact rz_ptr rfl | apply rz_tup)) (rzs_cons (by repeat (first | exact rzs_nil | apply rzs_cons | exact rz_c | exact rz_nil rfl | apply rz_agg | exact rz_own rfl | apply rz_fn | exact rz_ptr rfl | apply rz_tup)) rzs_self))
      rintro _ rfl
      cases pq
      · repeat (first | refine gG ?_ | refine zN1 (fun hlen => ?_) | refine zN2 (fun hlen => ?_) | refine zAl (fun _ => ?_))
        first | refine zR ?_ | refine zQ ?_
        rw [hk.2, hstep]
        rfl
      · repeat (first | refine gG ?_ | refine zN1 (fun hlen => ?_) | refine zN2 (fun hlen => ?_) | refine zAl (fun _ => ?_))
        exact ⟨k + 1, ⟨hk', by rw [hk.2, hstep, Bool.true_and]⟩, by omega, x_wkd 0 ⟨rfl, trivial⟩ rfl (by repeat (first | exact ag_refl | refine ag_upd rfl ?_ | refine ag_at rfl rfl ?_))⟩
    · have hk' : k = l.length := by
        have : ¬ k < l.length := by simpa using h
        omega
      repeat (first | refine gG ?_ | refine zN1 (fun hlen => ?_) | refine zN2 (fun hlen => ?_) | refine zAl (fun _ => ?_))
      first | refine zR ?_ | refine zQ ?_
      rw [hk.2, hk', List.drop_length, hlr, List.drop_length]
      rfl
set_option maxRecDepth 100000 in
set_option maxHeartbeats 4000000 in
theorem eqPats_af (p : V → V → Bool) (f : FuncId) (cap : List T) (l r : List V) (hf : ∀ a ∈ l, ∀ b ∈ r, AF Tryd.prog f (.agg (V.ts a) :: .agg (V.ts b) :: cap) (· = .lit (.bool (p a b)))) :
    AF Tryd.prog 160 [V.row l, V.row r, .fn (.func f) cap] (· = .lit (.bool (eqBy p l r))) := by
  refine af_enter tok Tryd.func160 Tryd.ntmps160 Tryd.results160 rfl (by kernel_rfl) rfl rfl fun F hX => ?_
  repeat (first | refine gG ?_ | refine zN1 (fun hlen => ?_) | refine zN2 (fun hlen => ?_) | refine zAl (fun _ => ?_))
  refine x_cond rfl (fun h => ?_) (fun h => ?_)
  · repeat (first | refine gG ?_ | refine zN1 (fun hlen => ?_) | refine zN2 (fun hlen => ?_) | refine zAl (fun _ => ?_))
    first | refine zR ?_ | refine zQ ?_
    have : l.length ≠ r.length := by have := h; simp at this; omega
    rw [eqBy_len this]
    rfl
  · have hlr : l.length = r.length := by have := h; simp at this; omega
    clear h
    repeat (first | refine gG ?_ | refine zN1 (fun hlen => ?_) | refine zN2 (fun hlen => ?_) | refine zAl (fun _ => ?_))
    refine x_loop [6, 7, 8, 9, 17, 18, 19, 20, 21, 22, 23, 24, 25, 26, 27, 28, 29, 30, 31] (fun k : Nat => [(17, .c (.lit (.int .i64 k)))]) (fun _ => []) (fun k => k ≤ l.length ∧ eqBy p l r = eqBy p (l.drop k) (r.drop k)) (fun k => l.length - k) 0 ⟨Nat.zero_le _, rfl⟩ ⟨rfl, trivial⟩ rfl fun k hk => ?_
    repeat (first | refine gG ?_ | refine zN1 (fun hlen => ?_) | refine zN2 (fun hlen => ?_) | refine zAl (fun _ => ?_))
    refine x_cond rfl (fun h => ?_) (fun h => ?_)
    · have hk' : k < l.length := by simpa using h
      have hk2 : k < r.length := hlr ▸ hk'
      obtain ⟨a, ha⟩ := nth hk'
      obtain ⟨b, hb⟩ := nth hk2
      have hp := hf a (List.mem_of_getElem? ha) b (List.mem_of_getElem? hb)
      have hstep : eqBy p (l.drop k) (r.drop k) = (p a b && eqBy p (l.drop (k + 1)) (r.drop (k + 1))) := eqBy_step ha hb
      clear h
      repeat (first | refine gG ?_ | refine zN1 (fun hlen => ?_) | refine zN2 (fun hlen => ?_) | refine zAl (fun _ => ?_))
      refine zIx (k) (hk') ?_
      repeat (first | refine gG ?_ | refine zN1 (fun hlen => ?_) | refine zN2 (fun hlen => ?_) | refine zAl (fun _ => ?_))
      refine zEl (V.at ha) (V.ts_len a) ?_
      generalize p a b = pq at *
      obtain ⟨k1, n1, t1, l1⟩ := a
      obtain ⟨k1', n1', t1', l1'⟩ := b
      repeat (first | refine gG ?_ | refine zN1 (fun hlen => ?_) | refine zN2 (fun hlen => ?_) | refine zAl (fun _ => ?_))
      refine zIx (k) (hk2) ?_
      repeat (first | refine gG ?_ | refine zN1 (fun hlen => ?_) | refine zN2 (fun hlen => ?_) | refine zAl (fun _ => ?_))
      refine zEl (V.at hb) (V.ts_len _) ?_
      repeat (first | refine gG ?_ | refine zN1 (fun hlen => ?_) | refine zN2 (fun hlen => ?_) | refine zAl (fun _ => ?_))
      refine zCallc hp ?_ (hx := rzs_cons (by repeat (first | exact rzs_nil | apply rzs_cons | exact rz_c | exact rz_nil rfl | apply rz_agg | exact rz_own rfl | apply rz_fn | exact rz_ptr rfl | apply rz_tup)) (rzs_cons (by repeat (first | exact rzs_nil | apply rzs_cons | exact rz_c | exact rz_nil rfl | apply rz_agg | exact rz_own rfl | apply rz_fn | exact rz_ptr rfl | apply rz_tup)) rzs_self))
      rintro _ rfl
      cases pq
      · repeat (first | refine gG ?_ | refine zN1 (fun hlen => ?_) | refine zN2 (fun hlen => ?_) | refine zAl (fun _ => ?_))
        first | refine zR ?_ | refine zQ ?_
        rw [hk.2, hstep]
        rfl
      · repeat (first | refine gG ?_ | refine zN1 (fun hlen => ?_) | refine zN2 (fun hlen => ?_) | refine zAl (fun _ => ?_))
        exact ⟨k + 1, ⟨hk', by rw [hk.2, hstep, Bool.true_and]⟩, by omega, x_wkd 0 ⟨rfl, trivial⟩ rfl (by repeat (first | exact ag_refl | refine ag_upd rfl ?_ | refine ag_at rfl rfl ?_))⟩
    · have hk' : k = l.length := by
        have : ¬ k < l.length := by simpa using h
        omega
      repeat (first | refine gG ?_ | refine zN1 (fun hlen => ?_) | refine zN2 (fun hlen => ?_) | refine zAl (fun _ => ?_))
      first | refine zR ?_ | refine zQ ?_
      rw [hk.2, hk', List.drop_length, hlr, List.drop_length]
      rfl
set_option maxRecDepth 100000 in
set_option maxHeartbeats 4000000 in
theorem eqExs_af (p : Ex → Ex → Bool) (f : FuncId) (cap : List T) (l r : List Ex) (hf : ∀ a ∈ l, ∀ b ∈ r, AF Tryd.prog f (.agg (Ex.ts a) :: .agg (Ex.ts b) :: cap) (· = .lit (.bool (p a b)))) :
    AF Tryd.prog 63 [Ex.row l, Ex.row r, .fn (.func f) cap] (· = .lit (.bool (eqBy p l r))) := by
  refine af_enter tok Tryd.func63 Tryd.ntmps63 Tryd.results63 rfl (by kernel_rfl) rfl rfl fun F hX => ?_
  repeat (first | refine gG ?_ | refine zN1 (fun hlen => ?_) | refine zN2 (fun hlen => ?_) | refine zAl (fun _ => ?_))
  refine x_cond rfl (fun h => ?_) (fun h => ?_)
  · repeat (first | refine gG ?_ | refine zN1 (fun hlen => ?_) | refine zN2 (fun hlen => ?_) | refine zAl (fun _ => ?_))
    first | refine zR ?_ | refine zQ ?_
    have : l.length ≠ r.length := by have := h; simp at this; omega
    rw [eqBy_len this]
    rfl
  · have hlr : l.length = r.length := by have := h; simp at this; omega
    clear h
    repeat (first | refine gG ?_ | refine zN1 (fun hlen => ?_) | refine zN2 (fun hlen => ?_) | refine zAl (fun _ => ?_))
    refine x_loop [6, 7, 8, 9, 17, 18, 19, 20, 21, 22, 23, 24, 25, 26, 27, 28, 29, 30, 31] (fun k : Nat => [(17, .c (.lit (.int .i64 k)))]) (fun _ => []) (fun k => k ≤ l.length ∧ eqBy p l r = eqBy p (l.drop k) (r.drop k)) (fun k => l.length - k) 0 ⟨Nat.zero_le _, rfl⟩ ⟨rfl, trivial⟩ rfl fun k hk => ?_
    repeat (first | refine gG ?_ | refine zN1 (fun hlen => ?_) | refine zN2 (fun hlen => ?_) | refine zAl (fun _ => ?_))
    refine x_cond rfl (fun h => ?_) (fun h => ?_)
    · have hk' : k < l.length := by simpa using h
      have hk2 : k < r.length := hlr ▸ hk'
      obtain ⟨a, ha⟩ := nth hk'
      obtain ⟨b, hb⟩ := nth hk2
      have hp := hf a (List.mem_of_getElem? ha) b (List.mem_of_getElem? hb)
      have hstep : eqBy p (l.drop k) (r.drop k) = (p a b && eqBy p (l.drop (k + 1)) (r.drop (k + 1))) := eqBy_step ha hb
      clear h
      repeat (first | refine gG ?_ | refine zN1 (fun hlen => ?_) | refine zN2 (fun hlen => ?_) | refine zAl (fun _ => ?_))
      refine zIx (k) (hk') ?_
      repeat (first | refine gG ?_ | refine zN1 (fun hlen => ?_) | refine zN2 (fun hlen => ?_) | refine zAl (fun _ => ?_))
      refine zEl (Ex.at ha) (Ex.ts_len a) ?_
      generalize p a b = pq at *
      obtain ⟨k1, n1, t1, ns1, ys1, l1, rs1, ps1⟩ := a
      obtain ⟨k1', n1', t1', ns1', ys1', l1', rs1', ps1'⟩ := b
      repeat (first | refine gG ?_ | refine zN1 (fun hlen => ?_) | refine zN2 (fun hlen => ?_) | refine zAl (fun _ => ?_))
      refine zIx (k) (hk2) ?_
      repeat (first | refine gG ?_ | refine zN1 (fun hlen => ?_) | refine zN2 (fun hlen => ?_) | refine zAl (fun _ => ?_))
      refine zEl (Ex.at hb) (Ex.ts_len _) ?_
      repeat (first | refine gG ?_ | refine zN1 (fun hlen => ?_) | refine zN2 (fun hlen => ?_) | refine zAl (fun _ => ?_))
      refine zCallc hp ?_ (hx := rzs_cons (by repeat (first | exact rzs_nil | apply rzs_cons | exact rz_c | exact rz_nil rfl | apply rz_agg | exact rz_own rfl | apply rz_fn | exact rz_ptr rfl | apply rz_tup)) (rzs_cons (by repeat (first | exact rzs_nil | apply rzs_cons | exact rz_c | exact rz_nil rfl | apply rz_agg | exact rz_own rfl | apply rz_fn | exact rz_ptr rfl | apply rz_tup)) rzs_self))
      rintro _ rfl
      cases pq
      · repeat (first | refine gG ?_ | refine zN1 (fun hlen => ?_) | refine zN2 (fun hlen => ?_) | refine zAl (fun _ => ?_))
        first | refine zR ?_ | refine zQ ?_
        rw [hk.2, hstep]
        rfl
      · repeat (first | refine gG ?_ | refine zN1 (fun hlen => ?_) | refine zN2 (fun hlen => ?_) | refine zAl (fun _ => ?_))
        exact ⟨k + 1, ⟨hk', by rw [hk.2, hstep, Bool.true_and]⟩, by omega, x_wkd 0 ⟨rfl, trivial⟩ rfl (by repeat (first | exact ag_refl | refine ag_upd rfl ?_ | refine ag_at rfl rfl ?_))⟩
    · have hk' : k = l.length := by
        have : ¬ k < l.length := by simpa using h
        omega
      repeat (first | refine gG ?_ | refine zN1 (fun hlen => ?_) | refine zN2 (fun hlen => ?_) | refine zAl (fun _ => ?_))
      first | refine zR ?_ | refine zQ ?_
      rw [hk.2, hk', List.drop_length, hlr, List.drop_length]
      rfl
set_option maxRecDepth 100000 in
set_option maxHeartbeats 4000000 in
theorem eqArs_af (p : Ar → Ar → Bool) (f : FuncId) (cap : List T) (l r : List Ar) (hf : ∀ a ∈ l, ∀ b ∈ r, AF Tryd.prog f (.agg (Ar.ts a) :: .agg (Ar.ts b) :: cap) (· = .lit (.bool (p a b)))) :
    AF Tryd.prog 103 [Ar.row l, Ar.row r, .fn (.func f) cap] (· = .lit (.bool (eqBy p l r))) := by
  refine af_enter tok Tryd.func103 Tryd.ntmps103 Tryd.results103 rfl (by kernel_rfl) rfl rfl fun F hX => ?_
  repeat (first | refine gG ?_ | refine zN1 (fun hlen => ?_) | refine zN2 (fun hlen => ?_) | refine zAl (fun _ => ?_))
  refine x_cond rfl (fun h => ?_) (fun h => ?_)
  · repeat (first | refine gG ?_ | refine zN1 (fun hlen => ?_) | refine zN2 (fun hlen => ?_) | refine zAl (fun _ => ?_))
    first | refine zR ?_ | refine zQ ?_
    have : l.length ≠ r.length := by have := h; simp at this; omega
    rw [eqBy_len this]
    rfl
  · have hlr : l.length = r.length := by have := h; simp at this; omega
    clear h
    repeat (first | refine gG ?_ | refine zN1 (fun hlen => ?_) | refine zN2 (fun hlen => ?_) | refine zAl (fun _ => ?_))
    refine x_loop [6, 7, 8, 9, 17, 18, 19, 20, 21, 22, 23, 24, 25, 26, 27, 28, 29, 30, 31] (fun k : Nat => [(17, .c (.lit (.int .i64 k)))]) (fun _ => []) (fun k => k ≤ l.length ∧ eqBy p l r = eqBy p (l.drop k) (r.drop k)) (fun k => l.length - k) 0 ⟨Nat.zero_le _, rfl⟩ ⟨rfl, trivial⟩ rfl fun k hk => ?_
    repeat (first | refine gG ?_ | refine zN1 (fun hlen => ?_) | refine zN2 (fun hlen => ?_) | refine zAl (fun _ => ?_))
    refine x_cond rfl (fun h => ?_) (fun h => ?_)
    · have hk' : k < l.length := by simpa using h
      have hk2 : k < r.length := hlr ▸ hk'
      obtain ⟨a, ha⟩ := nth hk'
      obtain ⟨b, hb⟩ := nth hk2
      have hp := hf a (List.mem_of_getElem? ha) b (List.mem_of_getElem? hb)
      have hstep : eqBy p (l.drop k) (r.drop k) = (p a b && eqBy p (l.drop (k + 1)) (r.drop (k + 1))) := eqBy_step ha hb
      clear h
      repeat (first | refine gG ?_ | refine zN1 (fun hlen => ?_) | refine zN2 (fun hlen => ?_) | refine zAl (fun _ => ?_))
      refine zIx (k) (hk') ?_
      repeat (first | refine gG ?_ | refine zN1 (fun hlen => ?_) | refine zN2 (fun hlen => ?_) | refine zAl (fun _ => ?_))
      refine zEl (Ar.at ha) (Ar.ts_len a) ?_
      generalize p a b = pq at *
      obtain ⟨⟨k1, n1, t1, l1⟩, ⟨kb, nb, tb, nsb, ysb, lb, rsb, pb⟩⟩ := a
      obtain ⟨⟨k1', n1', t1', l1'⟩, ⟨kb', nb', tb', nsb', ysb', lb', rsb', pb'⟩⟩ := b
      repeat (first | refine gG ?_ | refine zN1 (fun hlen => ?_) | refine zN2 (fun hlen => ?_) | refine zAl (fun _ => ?_))
      refine zIx (k) (hk2) ?_
      repeat (first | refine gG ?_ | refine zN1 (fun hlen => ?_) | refine zN2 (fun hlen => ?_) | refine zAl (fun _ => ?_))
      refine zEl (Ar.at hb) (Ar.ts_len _) ?_
      repeat (first | refine gG ?_ | refine zN1 (fun hlen => ?_) | refine zN2 (fun hlen => ?_) | refine zAl (fun _ => ?_))
      refine zCallc hp ?_ (hx := rzs_cons (by repeat (first | exact rzs_nil | apply rzs_cons | exact rz_c | exact rz_nil rfl | apply rz_agg | exact rz_own rfl | apply rz_fn | exact rz_ptr rfl | apply rz_tup)) (rzs_cons (by repeat (first | exact rzs_nil | apply rzs_cons | exact rz_c | exact rz_nil rfl | apply rz_agg | exact rz_own rfl | apply rz_fn | exact rz_ptr rfl | apply rz_tup)) rzs_self))
      rintro _ rfl
      cases pq
      · repeat (first | refine gG ?_ | refine zN1 (fun hlen => ?_) | refine zN2 (fun hlen => ?_) | refine zAl (fun _ => ?_))
        first | refine zR ?_ | refine zQ ?_
        rw [hk.2, hstep]
        rfl
      · repeat (first | refine gG ?_ | refine zN1 (fun hlen => ?_) | refine zN2 (fun hlen => ?_) | refine zAl (fun _ => ?_))
        exact ⟨k + 1, ⟨hk', by rw [hk.2, hstep, Bool.true_and]⟩, by omega, x_wkd 0 ⟨rfl, trivial⟩ rfl (by repeat (first | exact ag_refl | refine ag_upd rfl ?_ | refine ag_at rfl rfl ?_))⟩
    · have hk' : k = l.length := by
        have : ¬ k < l.length := by simpa using h
        omega
      repeat (first | refine gG ?_ | refine zN1 (fun hlen => ?_) | refine zN2 (fun hlen => ?_) | refine zAl (fun _ => ?_))
      first | refine zR ?_ | refine zQ ?_
      rw [hk.2, hk', List.drop_length, hlr, List.drop_length]
      rfl
set_option maxRecDepth 100000 in
set_option maxHeartbeats 4000000 in
theorem eqFus_af (p : Fu → Fu → Bool) (f : FuncId) (cap : List T) (l r : List Fu) (hf : ∀ a ∈ l, ∀ b ∈ r, AF Tryd.prog f (.agg (Fu.ts a) :: .agg (Fu.ts b) :: cap) (· = .lit (.bool (p a b)))) :
    AF Tryd.prog 86 [Fu.row l, Fu.row r, .fn (.func f) cap] (· = .lit (.bool (eqBy p l r))) := by
  refine af_enter tok Tryd.func86 Tryd.ntmps86 Tryd.results86 rfl (by kernel_rfl) rfl rfl fun F hX => ?_
  repeat (first | refine gG ?_ | refine zN1 (fun hlen => ?_) | refine zN2 (fun hlen => ?_) | refine zAl (fun _ => ?_))
  refine x_cond rfl (fun h => ?_) (fun h => ?_)
  · repeat (first | refine gG ?_ | refine zN1 (fun hlen => ?_) | refine zN2 (fun hlen => ?_) | refine zAl (fun _ => ?_))
    first | refine zR ?_ | refine zQ ?_
    have : l.length ≠ r.length := by have := h; simp at this; omega
    rw [eqBy_len this]
    rfl
  · have hlr : l.length = r.length := by have := h; simp at this; omega
    clear h
    repeat (first | refine gG ?_ | refine zN1 (fun hlen => ?_) | refine zN2 (fun hlen => ?_) | refine zAl (fun _ => ?_))
    refine x_loop [6, 7, 8, 9, 17, 18, 19, 20, 21, 22, 23, 24, 25, 26, 27, 28, 29, 30, 31] (fun k : Nat => [(17, .c (.lit (.int .i64 k)))]) (fun _ => []) (fun k => k ≤ l.length ∧ eqBy p l r = eqBy p (l.drop k) (r.drop k)) (fun k => l.length - k) 0 ⟨Nat.zero_le _, rfl⟩ ⟨rfl, trivial⟩ rfl fun k hk => ?_
    repeat (first | refine gG ?_ | refine zN1 (fun hlen => ?_) | refine zN2 (fun hlen => ?_) | refine zAl (fun _ => ?_))
    refine x_cond rfl (fun h => ?_) (fun h => ?_)
    · have hk' : k < l.length := by simpa using h
      have hk2 : k < r.length := hlr ▸ hk'
      obtain ⟨a, ha⟩ := nth hk'
      obtain ⟨b, hb⟩ := nth hk2
      have hp := hf a (List.mem_of_getElem? ha) b (List.mem_of_getElem? hb)
      have hstep : eqBy p (l.drop k) (r.drop k) = (p a b && eqBy p (l.drop (k + 1)) (r.drop (k + 1))) := eqBy_step ha hb
      clear h
      repeat (first | refine gG ?_ | refine zN1 (fun hlen => ?_) | refine zN2 (fun hlen => ?_) | refine zAl (fun _ => ?_))
      refine zIx (k) (hk') ?_
      repeat (first | refine gG ?_ | refine zN1 (fun hlen => ?_) | refine zN2 (fun hlen => ?_) | refine zAl (fun _ => ?_))
      refine zEl (Fu.at ha) (Fu.ts_len a) ?_
      generalize p a b = pq at *
      obtain ⟨nm, pas, nas, tys, ⟨ko, no, lo⟩, ⟨kb, nb, tb, nsb, ysb, lb, rsb, pb⟩⟩ := a
      obtain ⟨nm', pas', nas', tys', ⟨ko', no', lo'⟩, ⟨kb', nb', tb', nsb', ysb', lb', rsb', pb'⟩⟩ := b
      repeat (first | refine gG ?_ | refine zN1 (fun hlen => ?_) | refine zN2 (fun hlen => ?_) | refine zAl (fun _ => ?_))
      refine zIx (k) (hk2) ?_
      repeat (first | refine gG ?_ | refine zN1 (fun hlen => ?_) | refine zN2 (fun hlen => ?_) | refine zAl (fun _ => ?_))
      refine zEl (Fu.at hb) (Fu.ts_len _) ?_
      repeat (first | refine gG ?_ | refine zN1 (fun hlen => ?_) | refine zN2 (fun hlen => ?_) | refine zAl (fun _ => ?_))
      refine zCallc hp ?_ (hx := rzs_cons (by repeat (first | exact rzs_nil | apply rzs_cons | exact rz_c | exact rz_nil rfl | apply rz_agg | exact rz_own rfl | apply rz_fn | exact rz_ptr rfl | apply rz_tup)) (rzs_cons (by repeat (first | exact rzs_nil | apply rzs_cons | exact rz_c | exact rz_nil rfl | apply rz_agg | exact rz_own rfl | apply rz_fn | exact rz_ptr rfl | apply rz_tup)) rzs_self))
      rintro _ rfl
      cases pq
      · repeat (first | refine gG ?_ | refine zN1 (fun hlen => ?_) | refine zN2 (fun hlen => ?_) | refine zAl (fun _ => ?_))
        first | refine zR ?_ | refine zQ ?_
        rw [hk.2, hstep]
        rfl
      · repeat (first | refine gG ?_ | refine zN1 (fun hlen => ?_) | refine zN2 (fun hlen => ?_) | refine zAl (fun _ => ?_))
        exact ⟨k + 1, ⟨hk', by rw [hk.2, hstep, Bool.true_and]⟩, by omega, x_wkd 0 ⟨rfl, trivial⟩ rfl (by repeat (first | exact ag_refl | refine ag_upd rfl ?_ | refine ag_at rfl rfl ?_))⟩
    · have hk' : k = l.length := by
        have : ¬ k < l.length := by simpa using h
        omega
      repeat (first | refine gG ?_ | refine zN1 (fun hlen => ?_) | refine zN2 (fun hlen => ?_) | refine zAl (fun _ => ?_))
      first | refine zR ?_ | refine zQ ?_
      rw [hk.2, hk', List.drop_length, hlr, List.drop_length]
      rfl
set_option maxRecDepth 100000 in
set_option maxHeartbeats 4000000 in
theorem eqMks_af (p : Mk → Mk → Bool) (f : FuncId) (cap : List T) (l r : List Mk) (hf : ∀ a ∈ l, ∀ b ∈ r, AF Tryd.prog f (.agg (Mk.ts a) :: .agg (Mk.ts b) :: cap) (· = .lit (.bool (p a b)))) :
    AF Tryd.prog 84 [Mk.row l, Mk.row r, .fn (.func f) cap] (· = .lit (.bool (eqBy p l r))) := by
  refine af_enter tok Tryd.func84 Tryd.ntmps84 Tryd.results84 rfl (by kernel_rfl) rfl rfl fun F hX => ?_
  repeat (first | refine gG ?_ | refine zN1 (fun hlen => ?_) | refine zN2 (fun hlen => ?_) | refine zAl (fun _ => ?_))
  refine x_cond rfl (fun h => ?_) (fun h => ?_)
  · repeat (first | refine gG ?_ | refine zN1 (fun hlen => ?_) | refine zN2 (fun hlen => ?_) | refine zAl (fun _ => ?_))
    first | refine zR ?_ | refine zQ ?_
    have : l.length ≠ r.length := by have := h; simp at this; omega
    rw [eqBy_len this]
    rfl
  · have hlr : l.length = r.length := by have := h; simp at this; omega
    clear h
    repeat (first | refine gG ?_ | refine zN1 (fun hlen => ?_) | refine zN2 (fun hlen => ?_) | refine zAl (fun _ => ?_))
    refine x_loop [6, 7, 8, 9, 17, 18, 19, 20, 21, 22, 23, 24, 25, 26, 27, 28, 29, 30, 31] (fun k : Nat => [(17, .c (.lit (.int .i64 k)))]) (fun _ => []) (fun k => k ≤ l.length ∧ eqBy p l r = eqBy p (l.drop k) (r.drop k)) (fun k => l.length - k) 0 ⟨Nat.zero_le _, rfl⟩ ⟨rfl, trivial⟩ rfl fun k hk => ?_
    repeat (first | refine gG ?_ | refine zN1 (fun hlen => ?_) | refine zN2 (fun hlen => ?_) | refine zAl (fun _ => ?_))
    refine x_cond rfl (fun h => ?_) (fun h => ?_)
    · have hk' : k < l.length := by simpa using h
      have hk2 : k < r.length := hlr ▸ hk'
      obtain ⟨a, ha⟩ := nth hk'
      obtain ⟨b, hb⟩ := nth hk2
      have hp := hf a (List.mem_of_getElem? ha) b (List.mem_of_getElem? hb)
      have hstep : eqBy p (l.drop k) (r.drop k) = (p a b && eqBy p (l.drop (k + 1)) (r.drop (k + 1))) := eqBy_step ha hb
      clear h
      repeat (first | refine gG ?_ | refine zN1 (fun hlen => ?_) | refine zN2 (fun hlen => ?_) | refine zAl (fun _ => ?_))
      refine zIx (k) (hk') ?_
      repeat (first | refine gG ?_ | refine zN1 (fun hlen => ?_) | refine zN2 (fun hlen => ?_) | refine zAl (fun _ => ?_))
      refine zEl (Mk.at ha) (Mk.ts_len a) ?_
      generalize p a b = pq at *
      obtain ⟨nm, tys⟩ := a
      obtain ⟨nm', tys'⟩ := b
      repeat (first | refine gG ?_ | refine zN1 (fun hlen => ?_) | refine zN2 (fun hlen => ?_) | refine zAl (fun _ => ?_))
      refine zIx (k) (hk2) ?_
      repeat (first | refine gG ?_ | refine zN1 (fun hlen => ?_) | refine zN2 (fun hlen => ?_) | refine zAl (fun _ => ?_))
      refine zEl (Mk.at hb) (Mk.ts_len _) ?_
      repeat (first | refine gG ?_ | refine zN1 (fun hlen => ?_) | refine zN2 (fun hlen => ?_) | refine zAl (fun _ => ?_))
      refine zCallc hp ?_ (hx := rzs_cons (by repeat (first | exact rzs_nil | apply rzs_cons | exact rz_c | exact rz_nil rfl | apply rz_agg | exact rz_own rfl | apply rz_fn | exact rz_ptr rfl | apply rz_tup)) (rzs_cons (by repeat (first | exact rzs_nil | apply rzs_cons | exact rz_c | exact rz_nil rfl | apply rz_agg | exact rz_own rfl | apply rz_fn | exact rz_ptr rfl | apply rz_tup)) rzs_self))
      rintro _ rfl
      cases pq
      · repeat (first | refine gG ?_ | refine zN1 (fun hlen => ?_) | refine zN2 (fun hlen => ?_) | refine zAl (fun _ => ?_))
        first | refine zR ?_ | refine zQ ?_
        rw [hk.2, hstep]
        rfl
      · repeat (first | refine gG ?_ | refine zN1 (fun hlen => ?_) | refine zN2 (fun hlen => ?_) | refine zAl (fun _ => ?_))
        exact ⟨k + 1, ⟨hk', by rw [hk.2, hstep, Bool.true_and]⟩, by omega, x_wkd 0 ⟨rfl, trivial⟩ rfl (by repeat (first | exact ag_refl | refine ag_upd rfl ?_ | refine ag_at rfl rfl ?_))⟩
    · have hk' : k = l.length := by
        have : ¬ k < l.length := by simpa using h
        omega
      repeat (first | refine gG ?_ | refine zN1 (fun hlen => ?_) | refine zN2 (fun hlen => ?_) | refine zAl (fun _ => ?_))
      first | refine zR ?_ | refine zQ ?_
      rw [hk.2, hk', List.drop_length, hlr, List.drop_length]
      rfl
set_option maxRecDepth 100000 in
set_option maxHeartbeats 4000000 in
theorem eqDas_af (p : Da → Da → Bool) (f : FuncId) (cap : List T) (l r : List Da) (hf : ∀ a ∈ l, ∀ b ∈ r, AF Tryd.prog f (.agg (Da.ts a) :: .agg (Da.ts b) :: cap) (· = .lit (.bool (p a b)))) :
    AF Tryd.prog 91 [Da.row l, Da.row r, .fn (.func f) cap] (· = .lit (.bool (eqBy p l r))) := by
  refine af_enter tok Tryd.func91 Tryd.ntmps91 Tryd.results91 rfl (by kernel_rfl) rfl rfl fun F hX => ?_
  repeat (first | refine gG ?_ | refine zN1 (fun hlen => ?_) | refine zN2 (fun hlen => ?_) | refine zAl (fun _ => ?_))
  refine x_cond rfl (fun h => ?_) (fun h => ?_)
  · repeat (first | refine gG ?_ | refine zN1 (fun hlen => ?_) | refine zN2 (fun hlen => ?_) | refine zAl (fun _ => ?_))
    first | refine zR ?_ | refine zQ ?_
    have : l.length ≠ r.length := by have := h; simp at this; omega
    rw [eqBy_len this]
    rfl
  · have hlr : l.length = r.length := by have := h; simp at this; omega
    clear h
    repeat (first | refine gG ?_ | refine zN1 (fun hlen => ?_) | refine zN2 (fun hlen => ?_) | refine zAl (fun _ => ?_))
    refine x_loop [6, 7, 8, 9, 17, 18, 19, 20, 21, 22, 23, 24, 25, 26, 27, 28, 29, 30, 31] (fun k : Nat => [(17, .c (.lit (.int .i64 k)))]) (fun _ => []) (fun k => k ≤ l.length ∧ eqBy p l r = eqBy p (l.drop k) (r.drop k)) (fun k => l.length - k) 0 ⟨Nat.zero_le _, rfl⟩ ⟨rfl, trivial⟩ rfl fun k hk => ?_
    repeat (first | refine gG ?_ | refine zN1 (fun hlen => ?_) | refine zN2 (fun hlen => ?_) | refine zAl (fun _ => ?_))
    refine x_cond rfl (fun h => ?_) (fun h => ?_)
    · have hk' : k < l.length := by simpa using h
      have hk2 : k < r.length := hlr ▸ hk'
      obtain ⟨a, ha⟩ := nth hk'
      obtain ⟨b, hb⟩ := nth hk2
      have hp := hf a (List.mem_of_getElem? ha) b (List.mem_of_getElem? hb)
      have hstep : eqBy p (l.drop k) (r.drop k) = (p a b && eqBy p (l.drop (k + 1)) (r.drop (k + 1))) := eqBy_step ha hb
      clear h
      repeat (first | refine gG ?_ | refine zN1 (fun hlen => ?_) | refine zN2 (fun hlen => ?_) | refine zAl (fun _ => ?_))
      refine zIx (k) (hk') ?_
      repeat (first | refine gG ?_ | refine zN1 (fun hlen => ?_) | refine zN2 (fun hlen => ?_) | refine zAl (fun _ => ?_))
      refine zEl (Da.at ha) (Da.ts_len a) ?_
      generalize p a b = pq at *
      obtain ⟨nm, pas, mks⟩ := a
      obtain ⟨nm', pas', mks'⟩ := b
      repeat (first | refine gG ?_ | refine zN1 (fun hlen => ?_) | refine zN2 (fun hlen => ?_) | refine zAl (fun _ => ?_))
      refine zIx (k) (hk2) ?_
      repeat (first | refine gG ?_ | refine zN1 (fun hlen => ?_) | refine zN2 (fun hlen => ?_) | refine zAl (fun _ => ?_))
      refine zEl (Da.at hb) (Da.ts_len _) ?_
      repeat (first | refine gG ?_ | refine zN1 (fun hlen => ?_) | refine zN2 (fun hlen => ?_) | refine zAl (fun _ => ?_))
      refine zCallc hp ?_ (hx := rzs_cons (by repeat (first | exact rzs_nil | apply rzs_cons | exact rz_c | exact rz_nil rfl | apply rz_agg | exact rz_own rfl | apply rz_fn | exact rz_ptr rfl | apply rz_tup)) (rzs_cons (by repeat (first | exact rzs_nil | apply rzs_cons | exact rz_c | exact rz_nil rfl | apply rz_agg | exact rz_own rfl | apply rz_fn | exact rz_ptr rfl | apply rz_tup)) rzs_self))
      rintro _ rfl
      cases pq
      · repeat (first | refine gG ?_ | refine zN1 (fun hlen => ?_) | refine zN2 (fun hlen => ?_) | refine zAl (fun _ => ?_))
        first | refine zR ?_ | refine zQ ?_
        rw [hk.2, hstep]
        rfl
      · repeat (first | refine gG ?_ | refine zN1 (fun hlen => ?_) | refine zN2 (fun hlen => ?_) | refine zAl (fun _ => ?_))
        exact ⟨k + 1, ⟨hk', by rw [hk.2, hstep, Bool.true_and]⟩, by omega, x_wkd 0 ⟨rfl, trivial⟩ rfl (by repeat (first | exact ag_refl | refine ag_upd rfl ?_ | refine ag_at rfl rfl ?_))⟩
    · have hk' : k = l.length := by
        have : ¬ k < l.length := by simpa using h
        omega
      repeat (first | refine gG ?_ | refine zN1 (fun hlen => ?_) | refine zN2 (fun hlen => ?_) | refine zAl (fun _ => ?_))
      first | refine zR ?_ | refine zQ ?_
      rw [hk.2, hk', List.drop_length, hlr, List.drop_length]
      rfl
set_option maxRecDepth 100000 in
set_option maxHeartbeats 4000000 in
theorem eqTrs_af (p : Tr → Tr → Bool) (f : FuncId) (cap : List T) (l r : List Tr) (hf : ∀ a ∈ l, ∀ b ∈ r, AF Tryd.prog f (.agg (Tr.ts a) :: .agg (Tr.ts b) :: cap) (· = .lit (.bool (p a b)))) :
    AF Tryd.prog 92 [Tr.row l, Tr.row r, .fn (.func f) cap] (· = .lit (.bool (eqBy p l r))) := by
  refine af_enter tok Tryd.func92 Tryd.ntmps92 Tryd.results92 rfl (by kernel_rfl) rfl rfl fun F hX => ?_
  repeat (first | refine gG ?_ | refine zN1 (fun hlen => ?_) | refine zN2 (fun hlen => ?_) | refine zAl (fun _ => ?_))
  refine x_cond rfl (fun h => ?_) (fun h => ?_)
  · repeat (first | refine gG ?_ | refine zN1 (fun hlen => ?_) | refine zN2 (fun hlen => ?_) | refine zAl (fun _ => ?_))
    first | refine zR ?_ | refine zQ ?_
    have : l.length ≠ r.length := by have := h; simp at this; omega
    rw [eqBy_len this]
    rfl
  · have hlr : l.length = r.length := by have := h; simp at this; omega
    clear h
    repeat (first | refine gG ?_ | refine zN1 (fun hlen => ?_) | refine zN2 (fun hlen => ?_) | refine zAl (fun _ => ?_))
    refine x_loop [6, 7, 8, 9, 17, 18, 19, 20, 21, 22, 23, 24, 25, 26, 27, 28, 29, 30, 31] (fun k : Nat => [(17, .c (.lit (.int .i64 k)))]) (fun _ => []) (fun k => k ≤ l.length ∧ eqBy p l r = eqBy p (l.drop k) (r.drop k)) (fun k => l.length - k) 0 ⟨Nat.zero_le _, rfl⟩ ⟨rfl, trivial⟩ rfl fun k hk => ?_
    repeat (first | refine gG ?_ | refine zN1 (fun hlen => ?_) | refine zN2 (fun hlen => ?_) | refine zAl (fun _ => ?_))
    refine x_cond rfl (fun h => ?_) (fun h => ?_)
    · have hk' : k < l.length := by simpa using h
      have hk2 : k < r.length := hlr ▸ hk'
      obtain ⟨a, ha⟩ := nth hk'
      obtain ⟨b, hb⟩ := nth hk2
      have hp := hf a (List.mem_of_getElem? ha) b (List.mem_of_getElem? hb)
      have hstep : eqBy p (l.drop k) (r.drop k) = (p a b && eqBy p (l.drop (k + 1)) (r.drop (k + 1))) := eqBy_step ha hb
      clear h
      repeat (first | refine gG ?_ | refine zN1 (fun hlen => ?_) | refine zN2 (fun hlen => ?_) | refine zAl (fun _ => ?_))
      refine zIx (k) (hk') ?_
      repeat (first | refine gG ?_ | refine zN1 (fun hlen => ?_) | refine zN2 (fun hlen => ?_) | refine zAl (fun _ => ?_))
      refine zEl (Tr.at ha) (Tr.ts_len a) ?_
      generalize p a b = pq at *
      obtain ⟨nm, fs⟩ := a
      obtain ⟨nm', fs'⟩ := b
      repeat (first | refine gG ?_ | refine zN1 (fun hlen => ?_) | refine zN2 (fun hlen => ?_) | refine zAl (fun _ => ?_))
      refine zIx (k) (hk2) ?_
      repeat (first | refine gG ?_ | refine zN1 (fun hlen => ?_) | refine zN2 (fun hlen => ?_) | refine zAl (fun _ => ?_))
      refine zEl (Tr.at hb) (Tr.ts_len _) ?_
      repeat (first | refine gG ?_ | refine zN1 (fun hlen => ?_) | refine zN2 (fun hlen => ?_) | refine zAl (fun _ => ?_))
      refine zCallc hp ?_ (hx := rzs_cons (by repeat (first | exact rzs_nil | apply rzs_cons | exact rz_c | exact rz_nil rfl | apply rz_agg | exact rz_own rfl | apply rz_fn | exact rz_ptr rfl | apply rz_tup)) (rzs_cons (by repeat (first | exact rzs_nil | apply rzs_cons | exact rz_c | exact rz_nil rfl | apply rz_agg | exact rz_own rfl | apply rz_fn | exact rz_ptr rfl | apply rz_tup)) rzs_self))
      rintro _ rfl
      cases pq
      · repeat (first | refine gG ?_ | refine zN1 (fun hlen => ?_) | refine zN2 (fun hlen => ?_) | refine zAl (fun _ => ?_))
        first | refine zR ?_ | refine zQ ?_
        rw [hk.2, hstep]
        rfl
      · repeat (first | refine gG ?_ | refine zN1 (fun hlen => ?_) | refine zN2 (fun hlen => ?_) | refine zAl (fun _ => ?_))
        exact ⟨k + 1, ⟨hk', by rw [hk.2, hstep, Bool.true_and]⟩, by omega, x_wkd 0 ⟨rfl, trivial⟩ rfl (by repeat (first | exact ag_refl | refine ag_upd rfl ?_ | refine ag_at rfl rfl ?_))⟩
    · have hk' : k = l.length := by
        have : ¬ k < l.length := by simpa using h
        omega
      repeat (first | refine gG ?_ | refine zN1 (fun hlen => ?_) | refine zN2 (fun hlen => ?_) | refine zAl (fun _ => ?_))
      first | refine zR ?_ | refine zQ ?_
      rw [hk.2, hk', List.drop_length, hlr, List.drop_length]
      rfl
set_option maxRecDepth 100000 in
set_option maxHeartbeats 4000000 in
theorem eqIms_af (p : Im → Im → Bool) (f : FuncId) (cap : List T) (l r : List Im) (hf : ∀ a ∈ l, ∀ b ∈ r, AF Tryd.prog f (.agg (Im.ts a) :: .agg (Im.ts b) :: cap) (· = .lit (.bool (p a b)))) :
    AF Tryd.prog 93 [Im.row l, Im.row r, .fn (.func f) cap] (· = .lit (.bool (eqBy p l r))) := by
  refine af_enter tok Tryd.func93 Tryd.ntmps93 Tryd.results93 rfl (by kernel_rfl) rfl rfl fun F hX => ?_
  repeat (first | refine gG ?_ | refine zN1 (fun hlen => ?_) | refine zN2 (fun hlen => ?_) | refine zAl (fun _ => ?_))
  refine x_cond rfl (fun h => ?_) (fun h => ?_)
  · repeat (first | refine gG ?_ | refine zN1 (fun hlen => ?_) | refine zN2 (fun hlen => ?_) | refine zAl (fun _ => ?_))
    first | refine zR ?_ | refine zQ ?_
    have : l.length ≠ r.length := by have := h; simp at this; omega
    rw [eqBy_len this]
    rfl
  · have hlr : l.length = r.length := by have := h; simp at this; omega
    clear h
    repeat (first | refine gG ?_ | refine zN1 (fun hlen => ?_) | refine zN2 (fun hlen => ?_) | refine zAl (fun _ => ?_))
    refine x_loop [6, 7, 8, 9, 17, 18, 19, 20, 21, 22, 23, 24, 25, 26, 27, 28, 29, 30, 31] (fun k : Nat => [(17, .c (.lit (.int .i64 k)))]) (fun _ => []) (fun k => k ≤ l.length ∧ eqBy p l r = eqBy p (l.drop k) (r.drop k)) (fun k => l.length - k) 0 ⟨Nat.zero_le _, rfl⟩ ⟨rfl, trivial⟩ rfl fun k hk => ?_
    repeat (first | refine gG ?_ | refine zN1 (fun hlen => ?_) | refine zN2 (fun hlen => ?_) | refine zAl (fun _ => ?_))
    refine x_cond rfl (fun h => ?_) (fun h => ?_)
    · have hk' : k < l.length := by simpa using h
      have hk2 : k < r.length := hlr ▸ hk'
      obtain ⟨a, ha⟩ := nth hk'
      obtain ⟨b, hb⟩ := nth hk2
      have hp := hf a (List.mem_of_getElem? ha) b (List.mem_of_getElem? hb)
      have hstep : eqBy p (l.drop k) (r.drop k) = (p a b && eqBy p (l.drop (k + 1)) (r.drop (k + 1))) := eqBy_step ha hb
      clear h
      repeat (first | refine gG ?_ | refine zN1 (fun hlen => ?_) | refine zN2 (fun hlen => ?_) | refine zAl (fun _ => ?_))
      refine zIx (k) (hk') ?_
      repeat (first | refine gG ?_ | refine zN1 (fun hlen => ?_) | refine zN2 (fun hlen => ?_) | refine zAl (fun _ => ?_))
      refine zEl (Im.at ha) (Im.ts_len a) ?_
      generalize p a b = pq at *
      obtain ⟨nm, dn, fs⟩ := a
      obtain ⟨nm', dn', fs'⟩ := b
      repeat (first | refine gG ?_ | refine zN1 (fun hlen => ?_) | refine zN2 (fun hlen => ?_) | refine zAl (fun _ => ?_))
      refine zIx (k) (hk2) ?_
      repeat (first | refine gG ?_ | refine zN1 (fun hlen => ?_) | refine zN2 (fun hlen => ?_) | refine zAl (fun _ => ?_))
      refine zEl (Im.at hb) (Im.ts_len _) ?_
      repeat (first | refine gG ?_ | refine zN1 (fun hlen => ?_) | refine zN2 (fun hlen => ?_) | refine zAl (fun _ => ?_))
      refine zCallc hp ?_ (hx := rzs_cons (by repeat (first | exact rzs_nil | apply rzs_cons | exact rz_c | exact rz_nil rfl | apply rz_agg | exact rz_own rfl | apply rz_fn | exact rz_ptr rfl | apply rz_tup)) (rzs_cons (by repeat (first | exact rzs_nil | apply rzs_cons | exact rz_c | exact rz_nil rfl | apply rz_agg | exact rz_own rfl | apply rz_fn | exact rz_ptr rfl | apply rz_tup)) rzs_self))
      rintro _ rfl
      cases pq
      · repeat (first | refine gG ?_ | refine zN1 (fun hlen => ?_) | refine zN2 (fun hlen => ?_) | refine zAl (fun _ => ?_))
        first | refine zR ?_ | refine zQ ?_
        rw [hk.2, hstep]
        rfl
      · repeat (first | refine gG ?_ | refine zN1 (fun hlen => ?_) | refine zN2 (fun hlen => ?_) | refine zAl (fun _ => ?_))
        exact ⟨k + 1, ⟨hk', by rw [hk.2, hstep, Bool.true_and]⟩, by omega, x_wkd 0 ⟨rfl, trivial⟩ rfl (by repeat (first | exact ag_refl | refine ag_upd rfl ?_ | refine ag_at rfl rfl ?_))⟩
    · have hk' : k = l.length := by
        have : ¬ k < l.length := by simpa using h
        omega
      repeat (first | refine gG ?_ | refine zN1 (fun hlen => ?_) | refine zN2 (fun hlen => ?_) | refine zAl (fun _ => ?_))
      first | refine zR ?_ | refine zQ ?_
      rw [hk.2, hk', List.drop_length, hlr, List.drop_length]
      rfl
set_option maxRecDepth 100000 in
set_option maxHeartbeats 4000000 in
theorem eqAcs_af (p : Ac → Ac → Bool) (f : FuncId) (cap : List T) (l r : List Ac) (hf : ∀ a ∈ l, ∀ b ∈ r, AF Tryd.prog f (.agg (Ac.ts a) :: .agg (Ac.ts b) :: cap) (· = .lit (.bool (p a b)))) :
    AF Tryd.prog 94 [Ac.row l, Ac.row r, .fn (.func f) cap] (· = .lit (.bool (eqBy p l r))) := by
  refine af_enter tok Tryd.func94 Tryd.ntmps94 Tryd.results94 rfl (by kernel_rfl) rfl rfl fun F hX => ?_
  repeat (first | refine gG ?_ | refine zN1 (fun hlen => ?_) | refine zN2 (fun hlen => ?_) | refine zAl (fun _ => ?_))
  refine x_cond rfl (fun h => ?_) (fun h => ?_)
  · repeat (first | refine gG ?_ | refine zN1 (fun hlen => ?_) | refine zN2 (fun hlen => ?_) | refine zAl (fun _ => ?_))
    first | refine zR ?_ | refine zQ ?_
    have : l.length ≠ r.length := by have := h; simp at this; omega
    rw [eqBy_len this]
    rfl
  · have hlr : l.length = r.length := by have := h; simp at this; omega
    clear h
    repeat (first | refine gG ?_ | refine zN1 (fun hlen => ?_) | refine zN2 (fun hlen => ?_) | refine zAl (fun _ => ?_))
    refine x_loop [6, 7, 8, 9, 17, 18, 19, 20, 21, 22, 23, 24, 25, 26, 27, 28, 29, 30, 31] (fun k : Nat => [(17, .c (.lit (.int .i64 k)))]) (fun _ => []) (fun k => k ≤ l.length ∧ eqBy p l r = eqBy p (l.drop k) (r.drop k)) (fun k => l.length - k) 0 ⟨Nat.zero_le _, rfl⟩ ⟨rfl, trivial⟩ rfl fun k hk => ?_
    repeat (first | refine gG ?_ | refine zN1 (fun hlen => ?_) | refine zN2 (fun hlen => ?_) | refine zAl (fun _ => ?_))
    refine x_cond rfl (fun h => ?_) (fun h => ?_)
    · have hk' : k < l.length := by simpa using h
      have hk2 : k < r.length := hlr ▸ hk'
      obtain ⟨a, ha⟩ := nth hk'
      obtain ⟨b, hb⟩ := nth hk2
      have hp := hf a (List.mem_of_getElem? ha) b (List.mem_of_getElem? hb)
      have hstep : eqBy p (l.drop k) (r.drop k) = (p a b && eqBy p (l.drop (k + 1)) (r.drop (k + 1))) := eqBy_step ha hb
      clear h
      repeat (first | refine gG ?_ | refine zN1 (fun hlen => ?_) | refine zN2 (fun hlen => ?_) | refine zAl (fun _ => ?_))
      refine zIx (k) (hk') ?_
      repeat (first | refine gG ?_ | refine zN1 (fun hlen => ?_) | refine zN2 (fun hlen => ?_) | refine zAl (fun _ => ?_))
      refine zEl (Ac.at ha) (Ac.ts_len a) ?_
      generalize p a b = pq at *
      obtain ⟨nm, nas, tys, ⟨ko, no, lo⟩, ⟨kb, nb, tb, nsb, ysb, lb, rsb, pb⟩⟩ := a
      obtain ⟨nm', nas', tys', ⟨ko', no', lo'⟩, ⟨kb', nb', tb', nsb', ysb', lb', rsb', pb'⟩⟩ := b
      repeat (first | refine gG ?_ | refine zN1 (fun hlen => ?_) | refine zN2 (fun hlen => ?_) | refine zAl (fun _ => ?_))
      refine zIx (k) (hk2) ?_
      repeat (first | refine gG ?_ | refine zN1 (fun hlen => ?_) | refine zN2 (fun hlen => ?_) | refine zAl (fun _ => ?_))
      refine zEl (Ac.at hb) (Ac.ts_len _) ?_
      repeat (first | refine gG ?_ | refine zN1 (fun hlen => ?_) | refine zN2 (fun hlen => ?_) | refine zAl (fun _ => ?_))
      refine zCallc hp ?_ (hx := rzs_cons (by repeat (first | exact rzs_nil | apply rzs_cons | exact rz_c | exact rz_nil rfl | apply rz_agg | exact rz_own rfl | apply rz_fn | exact rz_ptr rfl | apply rz_tup)) (rzs_cons (by repeat (first | exact rzs_nil | apply rzs_cons | exact rz_c | exact rz_nil rfl | apply rz_agg | exact rz_own rfl | apply rz_fn | exact rz_ptr rfl | apply rz_tup)) rzs_self))
      rintro _ rfl
      cases pq
      · repeat (first | refine gG ?_ | refine zN1 (fun hlen => ?_) | refine zN2 (fun hlen => ?_) | refine zAl (fun _ => ?_))
        first | refine zR ?_ | refine zQ ?_
        rw [hk.2, hstep]
        rfl
      · repeat (first | refine gG ?_ | refine zN1 (fun hlen => ?_) | refine zN2 (fun hlen => ?_) | refine zAl (fun _ => ?_))
        exact ⟨k + 1, ⟨hk', by rw [hk.2, hstep, Bool.true_and]⟩, by omega, x_wkd 0 ⟨rfl, trivial⟩ rfl (by repeat (first | exact ag_refl | refine ag_upd rfl ?_ | refine ag_at rfl rfl ?_))⟩
    · have hk' : k = l.length := by
        have : ¬ k < l.length := by simpa using h
        omega
      repeat (first | refine gG ?_ | refine zN1 (fun hlen => ?_) | refine zN2 (fun hlen => ?_) | refine zAl (fun _ => ?_))
      first | refine zR ?_ | refine zQ ?_
      rw [hk.2, hk', List.drop_length, hlr, List.drop_length]
      rfl
set_option maxRecDepth 100000 in
set_option maxHeartbeats 4000000 in
theorem sameType_af (a : Y) : ∀ b : Y, AF Tryd.prog 82 [a.t, b.t] (· = .lit (.bool (a.same b))) := by
  induction a using Y.ind with
  | h k n l ih =>
    rintro ⟨k', n', l'⟩
    have hc := eqTys_af Y.same 82 [] l l' (fun a ha b _ => ih a ha b)
    have e : (Y.mk k n l).same (.mk k' n' l') = (decide (k = k') && (decide (n = n') && eqBy Y.same l l')) := by simp [Y.same, Y.sames_eq]
    generalize (Y.mk k n l).same (.mk k' n' l') = sm at *
    generalize eqBy Y.same l l' = c1 at *
    clear ih
    refine af_enter tok Tryd.func82 Tryd.ntmps82 Tryd.results82 rfl (by kernel_rfl) rfl rfl fun F hX => ?_
    cases d0 : decide (k = k')
    · rw [d0] at e
      repeat (first | refine gG ?_ | refine zBf ?_)
      first | refine zR ?_ | refine zQ ?_
      rw [e]
      rfl
    rw [d0, Bool.true_and] at e
    cases d1 : decide (n = n')
    · rw [d1] at e
      repeat (first | refine gG ?_ | refine zBf ?_)
      first | refine zR ?_ | refine zQ ?_
      rw [e]
      rfl
    rw [d1, Bool.true_and] at e
    cases c1
    · repeat (first | refine gG ?_ | refine zBf ?_)
      refine zCall (hc) ?_
      rintro _ rfl
      repeat (first | refine gG ?_ | refine zBf ?_)
      first | refine zR ?_ | refine zQ ?_
      rw [e]
      rfl
    repeat (first | refine gG ?_ | refine zBf ?_)
    refine zCall (hc) ?_
    rintro _ rfl
    repeat (first | refine gG ?_ | refine zBf ?_)
    first | refine zR ?_ | refine zQ ?_
    rw [e]
    rfl
set_option maxRecDepth 100000 in
set_option maxHeartbeats 4000000 in
theorem samePat_af (a : V) : ∀ b : V, AF Tryd.prog 102 [a.t, b.t] (· = .lit (.bool (a.alike b))) := by
  induction a using V.ind with
  | h k n t l ih =>
    rintro ⟨k', n', t', l'⟩
    have hc := eqPats_af V.alike 102 [] l l' (fun a ha b _ => ih a ha b)
    have e : (V.mk k n t l).alike (.mk k' n' t' l') = (decide (k = k') && (decide (n = n') && (decide (t = t') && eqBy V.alike l l'))) := by simp [V.alike, V.alikes_eq]
    generalize (V.mk k n t l).alike (.mk k' n' t' l') = sm at *
    generalize eqBy V.alike l l' = c1 at *
    clear ih
    refine af_enter tok Tryd.func102 Tryd.ntmps102 Tryd.results102 rfl (by kernel_rfl) rfl rfl fun F hX => ?_
    cases d0 : decide (k = k')
    · rw [d0] at e
      repeat (first | refine gG ?_ | refine zBf ?_)
      first | refine zR ?_ | refine zQ ?_
      rw [e]
      rfl
    rw [d0, Bool.true_and] at e
    cases d1 : decide (n = n')
    · rw [d1] at e
      repeat (first | refine gG ?_ | refine zBf ?_)
      first | refine zR ?_ | refine zQ ?_
      rw [e]
      rfl
    rw [d1, Bool.true_and] at e
    cases d2 : decide (t = t')
    · rw [d2] at e
      repeat (first | refine gG ?_ | refine zBf ?_)
      first | refine zR ?_ | refine zQ ?_
      rw [e]
      rfl
    rw [d2, Bool.true_and] at e
    cases c1
    · repeat (first | refine gG ?_ | refine zBf ?_)
      refine zCall (hc) ?_
      rintro _ rfl
      repeat (first | refine gG ?_ | refine zBf ?_)
      first | refine zR ?_ | refine zQ ?_
      rw [e]
      rfl
    repeat (first | refine gG ?_ | refine zBf ?_)
    refine zCall (hc) ?_
    rintro _ rfl
    repeat (first | refine gG ?_ | refine zBf ?_)
    first | refine zR ?_ | refine zQ ?_
    rw [e]
    rfl
set_option maxRecDepth 100000 in
set_option maxHeartbeats 4000000 in
theorem sameArm_af (p p' : V) (b b' : Ex) (hb : AF Tryd.prog 15 [b.t, b'.t] (· = .lit (.bool (b.same b')))) : AF Tryd.prog 101 [.agg (Ar.mk p b).ts, .agg (Ar.mk p' b').ts] (· = .lit (.bool ((Ar.mk p b).same (.mk p' b')))) := by
  have hp := samePat_af p p'
  have e : (Ar.mk p b).same (.mk p' b') = (p.alike p' && b.same b') := by simp [Ar.same]
  generalize (Ar.mk p b).same (.mk p' b') = sm at *
  generalize p.alike p' = c1 at *
  generalize b.same b' = c2 at *
  obtain ⟨kp, np, tp, lp⟩ := p
  obtain ⟨kq, nq, tq, lq⟩ := p'
  obtain ⟨kb, nb, tb, nsb, ysb, lb, rsb, pb⟩ := b
  obtain ⟨kc, nc, tc, nsc, ysc, lc, rsc, pc⟩ := b'
  refine af_enter tok Tryd.func101 Tryd.ntmps101 Tryd.results101 rfl (by kernel_rfl) rfl rfl fun F hX => ?_
  cases c1
  · repeat (first | refine gG ?_ | refine zBf ?_)
    refine zCall (hp) ?_
    rintro _ rfl
    repeat (first | refine gG ?_ | refine zBf ?_)
    first | refine zR ?_ | refine zQ ?_
    rw [e]
    rfl
  rw [Bool.true_and] at e
  cases c2
  · repeat (first | refine gG ?_ | refine zBf ?_)
    refine zCall (hp) ?_
    rintro _ rfl
    repeat (first | refine gG ?_ | refine zBf ?_)
    refine zCall (hb) ?_
    rintro _ rfl
    repeat (first | refine gG ?_ | refine zBf ?_)
    first | refine zR ?_ | refine zQ ?_
    rw [e]
    rfl
  repeat (first | refine gG ?_ | refine zBf ?_)
  refine zCall (hp) ?_
  rintro _ rfl
  repeat (first | refine gG ?_ | refine zBf ?_)
  refine zCall (hb) ?_
  rintro _ rfl
  repeat (first | refine gG ?_ | refine zBf ?_)
  first | refine zR ?_ | refine zQ ?_
  rw [e]
  rfl
set_option maxRecDepth 100000 in
set_option maxHeartbeats 4000000 in
theorem sameExpr_af (a : Ex) : ∀ b : Ex, AF Tryd.prog 15 [a.t, b.t] (· = .lit (.bool (a.same b))) := by
  induction a using Ex.ind with
  | h k n t ns ys l rs ps ih ihr =>
    rintro ⟨k', n', t', ns', ys', l', rs', ps'⟩
    have h1 := eqStrs_af ns ns'
    have h2 := eqTys_af Y.same 82 [] ys ys' (fun a _ b _ => sameType_af a b)
    have h3 := eqExs_af Ex.same 15 [] l l' (fun a ha b _ => ih a ha b)
    have h4 := eqArs_af Ar.same 101 [] rs rs' (fun a ha b _ => by
      obtain ⟨p, x⟩ := a
      obtain ⟨p', x'⟩ := b
      exact sameArm_af p p' x x' (ihr _ ha p x rfl x'))
    have e : (Ex.mk k n t ns ys l rs ps).same (.mk k' n' t' ns' ys' l' rs' ps') = (decide (k = k') && (decide (n = n') && (decide (t = t') && (eqBy eqStr ns ns' && (eqBy Y.same ys ys' && (eqBy Ex.same l l' && eqBy Ar.same rs rs')))))) := by simp [Ex.same, Ex.sames_eq, Ar.sames_eq]
    generalize (Ex.mk k n t ns ys l rs ps).same (.mk k' n' t' ns' ys' l' rs' ps') = sm at *
    generalize eqBy eqStr ns ns' = c1 at *
    generalize eqBy Y.same ys ys' = c2 at *
    generalize eqBy Ex.same l l' = c3 at *
    generalize eqBy Ar.same rs rs' = c4 at *
    clear ih ihr
    refine af_enter tok Tryd.func15 Tryd.ntmps15 Tryd.results15 rfl (by kernel_rfl) rfl rfl fun F hX => ?_
    cases d0 : decide (k = k')
    · rw [d0] at e
      repeat (first | refine gG ?_ | refine zBf ?_)
      first | refine zR ?_ | refine zQ ?_
      rw [e]
      rfl
    rw [d0, Bool.true_and] at e
    cases d1 : decide (n = n')
    · rw [d1] at e
      repeat (first | refine gG ?_ | refine zBf ?_)
      first | refine zR ?_ | refine zQ ?_
      rw [e]
      rfl
    rw [d1, Bool.true_and] at e
    cases d2 : decide (t = t')
    · rw [d2] at e
      repeat (first | refine gG ?_ | refine zBf ?_)
      first | refine zR ?_ | refine zQ ?_
      rw [e]
      rfl
    rw [d2, Bool.true_and] at e
    cases c1
    · repeat (first | refine gG ?_ | refine zBf ?_)
      refine zCall (h1) ?_
      rintro _ rfl
      repeat (first | refine gG ?_ | refine zBf ?_)
      first | refine zR ?_ | refine zQ ?_
      rw [e]
      rfl
    rw [Bool.true_and] at e
    cases c2
    · repeat (first | refine gG ?_ | refine zBf ?_)
      refine zCall (h1) ?_
      rintro _ rfl
      repeat (first | refine gG ?_ | refine zBf ?_)
      refine zCall (h2) ?_
      rintro _ rfl
      repeat (first | refine gG ?_ | refine zBf ?_)
      first | refine zR ?_ | refine zQ ?_
      rw [e]
      rfl
    rw [Bool.true_and] at e
    cases c3
    · repeat (first | refine gG ?_ | refine zBf ?_)
      refine zCall (h1) ?_
      rintro _ rfl
      repeat (first | refine gG ?_ | refine zBf ?_)
      refine zCall (h2) ?_
      rintro _ rfl
      repeat (first | refine gG ?_ | refine zBf ?_)
      refine zCall (h3) ?_
      rintro _ rfl
      repeat (first | refine gG ?_ | refine zBf ?_)
      first | refine zR ?_ | refine zQ ?_
      rw [e]
      rfl
    rw [Bool.true_and] at e
    cases c4
    · repeat (first | refine gG ?_ | refine zBf ?_)
      refine zCall (h1) ?_
      rintro _ rfl
      repeat (first | refine gG ?_ | refine zBf ?_)
      refine zCall (h2) ?_
      rintro _ rfl
      repeat (first | refine gG ?_ | refine zBf ?_)
      refine zCall (h3) ?_
      rintro _ rfl
      repeat (first | refine gG ?_ | refine zBf ?_)
      refine zCall (h4) ?_
      rintro _ rfl
      repeat (first | refine gG ?_ | refine zBf ?_)
      first | refine zR ?_ | refine zQ ?_
      rw [e]
      rfl
    repeat (first | refine gG ?_ | refine zBf ?_)
    refine zCall (h1) ?_
    rintro _ rfl
    repeat (first | refine gG ?_ | refine zBf ?_)
    refine zCall (h2) ?_
    rintro _ rfl
    repeat (first | refine gG ?_ | refine zBf ?_)
    refine zCall (h3) ?_
    rintro _ rfl
    repeat (first | refine gG ?_ | refine zBf ?_)
    refine zCall (h4) ?_
    rintro _ rfl
    repeat (first | refine gG ?_ | refine zBf ?_)
    first | refine zR ?_ | refine zQ ?_
    rw [e]
    rfl
set_option maxRecDepth 100000 in
set_option maxHeartbeats 4000000 in
theorem sameFunc_af (a b : Fu) : AF Tryd.prog 87 [.agg a.ts, .agg b.ts] (· = .lit (.bool (a.same b))) := by
  obtain ⟨nm, pas, nas, tys, ou, bo⟩ := a
  obtain ⟨nm', pas', nas', tys', ou', bo'⟩ := b
  have h1 := eqStrs_af pas pas'
  have h2 := eqStrs_af nas nas'
  have h3 := eqTys_af Y.same 82 [] tys tys' (fun a _ b _ => sameType_af a b)
  have h4 := sameType_af ou ou'
  have h5 := sameExpr_af bo bo'
  have e : Fu.same ⟨nm, pas, nas, tys, ou, bo⟩ ⟨nm', pas', nas', tys', ou', bo'⟩ = (decide (nm = nm') && (eqBy eqStr pas pas' && (eqBy eqStr nas nas' && (eqBy Y.same tys tys' && (ou.same ou' && bo.same bo'))))) := rfl
  generalize Fu.same ⟨nm, pas, nas, tys, ou, bo⟩ ⟨nm', pas', nas', tys', ou', bo'⟩ = sm at *
  generalize eqBy eqStr pas pas' = c1 at *
  generalize eqBy eqStr nas nas' = c2 at *
  generalize eqBy Y.same tys tys' = c3 at *
  generalize ou.same ou' = c4 at *
  generalize bo.same bo' = c5 at *
  obtain ⟨ko, no, lo⟩ := ou
  obtain ⟨ko', no', lo'⟩ := ou'
  obtain ⟨kb, nb, tb, nsb, ysb, lb, rsb, pb⟩ := bo
  obtain ⟨kc, nc, tc, nsc, ysc, lc, rsc, pc⟩ := bo'
  refine af_enter tok Tryd.func87 Tryd.ntmps87 Tryd.results87 rfl (by kernel_rfl) rfl rfl fun F hX => ?_
  cases d0 : decide (nm = nm')
  · rw [d0] at e
    repeat (first | refine gG ?_ | refine zBf ?_)
    first | refine zR ?_ | refine zQ ?_
    rw [e]
    rfl
  rw [d0, Bool.true_and] at e
  cases c1
  · repeat (first | refine gG ?_ | refine zBf ?_)
    refine zCall (h1) ?_
    rintro _ rfl
    repeat (first | refine gG ?_ | refine zBf ?_)
    first | refine zR ?_ | refine zQ ?_
    rw [e]
    rfl
  rw [Bool.true_and] at e
  cases c2
  · repeat (first | refine gG ?_ | refine zBf ?_)
    refine zCall (h1) ?_
    rintro _ rfl
    repeat (first | refine gG ?_ | refine zBf ?_)
    refine zCall (h2) ?_
    rintro _ rfl
    repeat (first | refine gG ?_ | refine zBf ?_)
    first | refine zR ?_ | refine zQ ?_
    rw [e]
    rfl
  rw [Bool.true_and] at e
  cases c3
  · repeat (first | refine gG ?_ | refine zBf ?_)
    refine zCall (h1) ?_
    rintro _ rfl
    repeat (first | refine gG ?_ | refine zBf ?_)
    refine zCall (h2) ?_
    rintro _ rfl
    repeat (first | refine gG ?_ | refine zBf ?_)
    refine zCall (h3) ?_
    rintro _ rfl
    repeat (first | refine gG ?_ | refine zBf ?_)
    first | refine zR ?_ | refine zQ ?_
    rw [e]
    rfl
  rw [Bool.true_and] at e
  cases c4
  · repeat (first | refine gG ?_ | refine zBf ?_)
    refine zCall (h1) ?_
    rintro _ rfl
    repeat (first | refine gG ?_ | refine zBf ?_)
    refine zCall (h2) ?_
    rintro _ rfl
    repeat (first | refine gG ?_ | refine zBf ?_)
    refine zCall (h3) ?_
    rintro _ rfl
    repeat (first | refine gG ?_ | refine zBf ?_)
    refine zCall (h4) ?_
    rintro _ rfl
    repeat (first | refine gG ?_ | refine zBf ?_)
    first | refine zR ?_ | refine zQ ?_
    rw [e]
    rfl
  rw [Bool.true_and] at e
  cases c5
  · repeat (first | refine gG ?_ | refine zBf ?_)
    refine zCall (h1) ?_
    rintro _ rfl
    repeat (first | refine gG ?_ | refine zBf ?_)
    refine zCall (h2) ?_
    rintro _ rfl
    repeat (first | refine gG ?_ | refine zBf ?_)
    refine zCall (h3) ?_
    rintro _ rfl
    repeat (first | refine gG ?_ | refine zBf ?_)
    refine zCall (h4) ?_
    rintro _ rfl
    repeat (first | refine gG ?_ | refine zBf ?_)
    refine zCall (h5) ?_
    rintro _ rfl
    repeat (first | refine gG ?_ | refine zBf ?_)
    first | refine zR ?_ | refine zQ ?_
    rw [e]
    rfl
  repeat (first | refine gG ?_ | refine zBf ?_)
  refine zCall (h1) ?_
  rintro _ rfl
  repeat (first | refine gG ?_ | refine zBf ?_)
  refine zCall (h2) ?_
  rintro _ rfl
  repeat (first | refine gG ?_ | refine zBf ?_)
  refine zCall (h3) ?_
  rintro _ rfl
  repeat (first | refine gG ?_ | refine zBf ?_)
  refine zCall (h4) ?_
  rintro _ rfl
  repeat (first | refine gG ?_ | refine zBf ?_)
  refine zCall (h5) ?_
  rintro _ rfl
  repeat (first | refine gG ?_ | refine zBf ?_)
  first | refine zR ?_ | refine zQ ?_
  rw [e]
  rfl
set_option maxRecDepth 100000 in
set_option maxHeartbeats 4000000 in
theorem sameMk_af (a b : Mk) : AF Tryd.prog 80 [.agg a.ts, .agg b.ts] (· = .lit (.bool (a.same b))) := by
  obtain ⟨nm, tys⟩ := a
  obtain ⟨nm', tys'⟩ := b
  have h1 := eqTys_af Y.same 82 [] tys tys' (fun a _ b _ => sameType_af a b)
  have e : Mk.same ⟨nm, tys⟩ ⟨nm', tys'⟩ = (decide (nm = nm') && eqBy Y.same tys tys') := rfl
  generalize Mk.same ⟨nm, tys⟩ ⟨nm', tys'⟩ = sm at *
  generalize eqBy Y.same tys tys' = c1 at *
  refine af_enter tok Tryd.func80 Tryd.ntmps80 Tryd.results80 rfl (by kernel_rfl) rfl rfl fun F hX => ?_
  cases d0 : decide (nm = nm')
  · rw [d0] at e
    repeat (first | refine gG ?_ | refine zBf ?_)
    first | refine zR ?_ | refine zQ ?_
    rw [e]
    rfl
  rw [d0, Bool.true_and] at e
  cases c1
  · repeat (first | refine gG ?_ | refine zBf ?_)
    refine zCall (h1) ?_
    rintro _ rfl
    repeat (first | refine gG ?_ | refine zBf ?_)
    first | refine zR ?_ | refine zQ ?_
    rw [e]
    rfl
  repeat (first | refine gG ?_ | refine zBf ?_)
  refine zCall (h1) ?_
  rintro _ rfl
  repeat (first | refine gG ?_ | refine zBf ?_)
  first | refine zR ?_ | refine zQ ?_
  rw [e]
  rfl
def mkCap : List T := [.pin [.fn (.func 80) []] 0]
set_option maxRecDepth 100000 in
set_option maxHeartbeats 4000000 in
theorem sameDa_af (a b : Da) : AF Tryd.prog 83 (.agg a.ts :: .agg b.ts :: mkCap) (· = .lit (.bool (a.same b))) := by
  obtain ⟨nm, pas, mks⟩ := a
  obtain ⟨nm', pas', mks'⟩ := b
  have h1 := eqStrs_af pas pas'
  have h2 := eqMks_af Mk.same 80 [] mks mks' (fun a _ b _ => sameMk_af a b)
  have e : Da.same ⟨nm, pas, mks⟩ ⟨nm', pas', mks'⟩ = (decide (nm = nm') && (eqBy eqStr pas pas' && eqBy Mk.same mks mks')) := rfl
  generalize Da.same ⟨nm, pas, mks⟩ ⟨nm', pas', mks'⟩ = sm at *
  generalize eqBy eqStr pas pas' = c1 at *
  generalize eqBy Mk.same mks mks' = c2 at *
  refine af_enter tok Tryd.func83 Tryd.ntmps83 Tryd.results83 rfl (by kernel_rfl) rfl rfl fun F hX => ?_
  cases d0 : decide (nm = nm')
  · rw [d0] at e
    repeat (first | refine gG ?_ | refine zBf ?_)
    first | refine zR ?_ | refine zQ ?_
    rw [e]
    rfl
  rw [d0, Bool.true_and] at e
  cases c1
  · repeat (first | refine gG ?_ | refine zBf ?_)
    refine zCall (h1) ?_
    rintro _ rfl
    repeat (first | refine gG ?_ | refine zBf ?_)
    first | refine zR ?_ | refine zQ ?_
    rw [e]
    rfl
  rw [Bool.true_and] at e
  cases c2
  · repeat (first | refine gG ?_ | refine zBf ?_)
    refine zCall (h1) ?_
    rintro _ rfl
    repeat (first | refine gG ?_ | refine zBf ?_)
    refine zCall (h2) ?_
    rintro _ rfl
    repeat (first | refine gG ?_ | refine zBf ?_)
    first | refine zR ?_ | refine zQ ?_
    rw [e]
    rfl
  repeat (first | refine gG ?_ | refine zBf ?_)
  refine zCall (h1) ?_
  rintro _ rfl
  repeat (first | refine gG ?_ | refine zBf ?_)
  refine zCall (h2) ?_
  rintro _ rfl
  repeat (first | refine gG ?_ | refine zBf ?_)
  first | refine zR ?_ | refine zQ ?_
  rw [e]
  rfl
set_option maxRecDepth 100000 in
set_option maxHeartbeats 4000000 in
theorem sameTr_af (a b : Tr) : AF Tryd.prog 85 [.agg a.ts, .agg b.ts] (· = .lit (.bool (a.same b))) := by
  obtain ⟨nm, fs⟩ := a
  obtain ⟨nm', fs'⟩ := b
  have h1 := eqFus_af Fu.same 87 [] fs fs' (fun a _ b _ => sameFunc_af a b)
  have e : Tr.same ⟨nm, fs⟩ ⟨nm', fs'⟩ = (decide (nm = nm') && eqBy Fu.same fs fs') := rfl
  generalize Tr.same ⟨nm, fs⟩ ⟨nm', fs'⟩ = sm at *
  generalize eqBy Fu.same fs fs' = c1 at *
  refine af_enter tok Tryd.func85 Tryd.ntmps85 Tryd.results85 rfl (by kernel_rfl) rfl rfl fun F hX => ?_
  cases d0 : decide (nm = nm')
  · rw [d0] at e
    repeat (first | refine gG ?_ | refine zBf ?_)
    first | refine zR ?_ | refine zQ ?_
    rw [e]
    rfl
  rw [d0, Bool.true_and] at e
  cases c1
  · repeat (first | refine gG ?_ | refine zBf ?_)
    refine zCall (h1) ?_
    rintro _ rfl
    repeat (first | refine gG ?_ | refine zBf ?_)
    first | refine zR ?_ | refine zQ ?_
    rw [e]
    rfl
  repeat (first | refine gG ?_ | refine zBf ?_)
  refine zCall (h1) ?_
  rintro _ rfl
  repeat (first | refine gG ?_ | refine zBf ?_)
  first | refine zR ?_ | refine zQ ?_
  rw [e]
  rfl
set_option maxRecDepth 100000 in
set_option maxHeartbeats 4000000 in
theorem sameIm_af (a b : Im) : AF Tryd.prog 88 [.agg a.ts, .agg b.ts] (· = .lit (.bool (a.same b))) := by
  obtain ⟨nm, dn, fs⟩ := a
  obtain ⟨nm', dn', fs'⟩ := b
  have h1 := eqFus_af Fu.same 87 [] fs fs' (fun a _ b _ => sameFunc_af a b)
  have e : Im.same ⟨nm, dn, fs⟩ ⟨nm', dn', fs'⟩ = (decide (nm = nm') && (decide (dn = dn') && eqBy Fu.same fs fs')) := rfl
  generalize Im.same ⟨nm, dn, fs⟩ ⟨nm', dn', fs'⟩ = sm at *
  generalize eqBy Fu.same fs fs' = c1 at *
  refine af_enter tok Tryd.func88 Tryd.ntmps88 Tryd.results88 rfl (by kernel_rfl) rfl rfl fun F hX => ?_
  cases d0 : decide (nm = nm')
  · rw [d0] at e
    repeat (first | refine gG ?_ | refine zBf ?_)
    first | refine zR ?_ | refine zQ ?_
    rw [e]
    rfl
  rw [d0, Bool.true_and] at e
  cases d1 : decide (dn = dn')
  · rw [d1] at e
    repeat (first | refine gG ?_ | refine zBf ?_)
    first | refine zR ?_ | refine zQ ?_
    rw [e]
    rfl
  rw [d1, Bool.true_and] at e
  cases c1
  · repeat (first | refine gG ?_ | refine zBf ?_)
    refine zCall (h1) ?_
    rintro _ rfl
    repeat (first | refine gG ?_ | refine zBf ?_)
    first | refine zR ?_ | refine zQ ?_
    rw [e]
    rfl
  repeat (first | refine gG ?_ | refine zBf ?_)
  refine zCall (h1) ?_
  rintro _ rfl
  repeat (first | refine gG ?_ | refine zBf ?_)
  first | refine zR ?_ | refine zQ ?_
  rw [e]
  rfl
set_option maxRecDepth 100000 in
set_option maxHeartbeats 4000000 in
theorem sameAc_af (a b : Ac) : AF Tryd.prog 89 [.agg a.ts, .agg b.ts] (· = .lit (.bool (a.same b))) := by
  obtain ⟨nm, nas, tys, ou, bo⟩ := a
  obtain ⟨nm', nas', tys', ou', bo'⟩ := b
  have h2 := eqStrs_af nas nas'
  have h3 := eqTys_af Y.same 82 [] tys tys' (fun a _ b _ => sameType_af a b)
  have h4 := sameType_af ou ou'
  have h5 := sameExpr_af bo bo'
  have e : Ac.same ⟨nm, nas, tys, ou, bo⟩ ⟨nm', nas', tys', ou', bo'⟩ = (decide (nm = nm') && (eqBy eqStr nas nas' && (eqBy Y.same tys tys' && (ou.same ou' && bo.same bo')))) := rfl
  generalize Ac.same ⟨nm, nas, tys, ou, bo⟩ ⟨nm', nas', tys', ou', bo'⟩ = sm at *
  generalize eqBy eqStr nas nas' = c2 at *
  generalize eqBy Y.same tys tys' = c3 at *
  generalize ou.same ou' = c4 at *
  generalize bo.same bo' = c5 at *
  obtain ⟨ko, no, lo⟩ := ou
  obtain ⟨ko', no', lo'⟩ := ou'
  obtain ⟨kb, nb, tb, nsb, ysb, lb, rsb, pb⟩ := bo
  obtain ⟨kc, nc, tc, nsc, ysc, lc, rsc, pc⟩ := bo'
  refine af_enter tok Tryd.func89 Tryd.ntmps89 Tryd.results89 rfl (by kernel_rfl) rfl rfl fun F hX => ?_
  cases d0 : decide (nm = nm')
  · rw [d0] at e
    repeat (first | refine gG ?_ | refine zBf ?_)
    first | refine zR ?_ | refine zQ ?_
    rw [e]
    rfl
  rw [d0, Bool.true_and] at e
  cases c2
  · repeat (first | refine gG ?_ | refine zBf ?_)
    refine zCall (h2) ?_
    rintro _ rfl
    repeat (first | refine gG ?_ | refine zBf ?_)
    first | refine zR ?_ | refine zQ ?_
    rw [e]
    rfl
  rw [Bool.true_and] at e
  cases c3
  · repeat (first | refine gG ?_ | refine zBf ?_)
    refine zCall (h2) ?_
    rintro _ rfl
    repeat (first | refine gG ?_ | refine zBf ?_)
    refine zCall (h3) ?_
    rintro _ rfl
    repeat (first | refine gG ?_ | refine zBf ?_)
    first | refine zR ?_ | refine zQ ?_
    rw [e]
    rfl
  rw [Bool.true_and] at e
  cases c4
  · repeat (first | refine gG ?_ | refine zBf ?_)
    refine zCall (h2) ?_
    rintro _ rfl
    repeat (first | refine gG ?_ | refine zBf ?_)
    refine zCall (h3) ?_
    rintro _ rfl
    repeat (first | refine gG ?_ | refine zBf ?_)
    refine zCall (h4) ?_
    rintro _ rfl
    repeat (first | refine gG ?_ | refine zBf ?_)
    first | refine zR ?_ | refine zQ ?_
    rw [e]
    rfl
  rw [Bool.true_and] at e
  cases c5
  · repeat (first | refine gG ?_ | refine zBf ?_)
    refine zCall (h2) ?_
    rintro _ rfl
    repeat (first | refine gG ?_ | refine zBf ?_)
    refine zCall (h3) ?_
    rintro _ rfl
    repeat (first | refine gG ?_ | refine zBf ?_)
    refine zCall (h4) ?_
    rintro _ rfl
    repeat (first | refine gG ?_ | refine zBf ?_)
    refine zCall (h5) ?_
    rintro _ rfl
    repeat (first | refine gG ?_ | refine zBf ?_)
    first | refine zR ?_ | refine zQ ?_
    rw [e]
    rfl
  repeat (first | refine gG ?_ | refine zBf ?_)
  refine zCall (h2) ?_
  rintro _ rfl
  repeat (first | refine gG ?_ | refine zBf ?_)
  refine zCall (h3) ?_
  rintro _ rfl
  repeat (first | refine gG ?_ | refine zBf ?_)
  refine zCall (h4) ?_
  rintro _ rfl
  repeat (first | refine gG ?_ | refine zBf ?_)
  refine zCall (h5) ?_
  rintro _ rfl
  repeat (first | refine gG ?_ | refine zBf ?_)
  first | refine zR ?_ | refine zQ ?_
  rw [e]
  rfl
set_option maxRecDepth 100000 in
set_option maxHeartbeats 4000000 in
theorem same_af (p q : Pr) : AF Tryd.prog 12 [p.t, q.t] (· = .lit (.bool (p.same q))) := by
  obtain ⟨pn, vr, us, ds, trs, ims, fus, acs⟩ := p
  obtain ⟨pn', vr', us', ds', trs', ims', fus', acs'⟩ := q
  have h1 := eqUses_af us us'
  have h2 := eqDas_af Da.same 83 mkCap ds ds' (fun a _ b _ => sameDa_af a b)
  have h3 := eqTrs_af Tr.same 85 [] trs trs' (fun a _ b _ => sameTr_af a b)
  have h4 := eqIms_af Im.same 88 [] ims ims' (fun a _ b _ => sameIm_af a b)
  have h5 := eqFus_af Fu.same 87 [] fus fus' (fun a _ b _ => sameFunc_af a b)
  have h6 := eqAcs_af Ac.same 89 [] acs acs' (fun a _ b _ => sameAc_af a b)
  have e : Pr.same ⟨pn, vr, us, ds, trs, ims, fus, acs⟩ ⟨pn', vr', us', ds', trs', ims', fus', acs'⟩ = (decide (pn = pn') && (decide (vr = vr') && (eqBy Us.same us us' && (eqBy Da.same ds ds' && (eqBy Tr.same trs trs' && (eqBy Im.same ims ims' && (eqBy Fu.same fus fus' && eqBy Ac.same acs acs'))))))) := rfl
  generalize Pr.same ⟨pn, vr, us, ds, trs, ims, fus, acs⟩ ⟨pn', vr', us', ds', trs', ims', fus', acs'⟩ = sm at *
  generalize eqBy Us.same us us' = c1 at *
  generalize eqBy Da.same ds ds' = c2 at *
  generalize eqBy Tr.same trs trs' = c3 at *
  generalize eqBy Im.same ims ims' = c4 at *
  generalize eqBy Fu.same fus fus' = c5 at *
  generalize eqBy Ac.same acs acs' = c6 at *
  refine af_enter tok Tryd.func12 Tryd.ntmps12 Tryd.results12 rfl (by kernel_rfl) rfl rfl fun F hX => ?_
  cases d0 : decide (pn = pn')
  · rw [d0] at e
    repeat (first | refine gG ?_ | refine zAl (fun _ => ?_) | refine zBf ?_)
    first | refine zR ?_ | refine zQ ?_
    rw [e]
    rfl
  rw [d0, Bool.true_and] at e
  cases d1 : decide (vr = vr')
  · rw [d1] at e
    repeat (first | refine gG ?_ | refine zAl (fun _ => ?_) | refine zBf ?_)
    first | refine zR ?_ | refine zQ ?_
    rw [e]
    rfl
  rw [d1, Bool.true_and] at e
  cases c1
  · repeat (first | refine gG ?_ | refine zAl (fun _ => ?_) | refine zBf ?_)
    refine zCall (h1) ?_
    rintro _ rfl
    repeat (first | refine gG ?_ | refine zAl (fun _ => ?_) | refine zBf ?_)
    first | refine zR ?_ | refine zQ ?_
    rw [e]
    rfl
  rw [Bool.true_and] at e
  cases c2
  · repeat (first | refine gG ?_ | refine zAl (fun _ => ?_) | refine zBf ?_)
    refine zCall (h1) ?_
    rintro _ rfl
    repeat (first | refine gG ?_ | refine zAl (fun _ => ?_) | refine zBf ?_)
    refine zPeek (h2) ?_
    rintro _ rfl
    refine ⟨rfl, ?_⟩
    repeat (first | refine gG ?_ | refine zAl (fun _ => ?_) | refine zBf ?_)
    first | refine zR ?_ | refine zQ ?_
    rw [e]
    rfl
  rw [Bool.true_and] at e
  cases c3
  · repeat (first | refine gG ?_ | refine zAl (fun _ => ?_) | refine zBf ?_)
    refine zCall (h1) ?_
    rintro _ rfl
    repeat (first | refine gG ?_ | refine zAl (fun _ => ?_) | refine zBf ?_)
    refine zPeek (h2) ?_
    rintro _ rfl
    refine ⟨rfl, ?_⟩
    repeat (first | refine gG ?_ | refine zAl (fun _ => ?_) | refine zBf ?_)
    refine zCall (h3) ?_
    rintro _ rfl
    repeat (first | refine gG ?_ | refine zAl (fun _ => ?_) | refine zBf ?_)
    first | refine zR ?_ | refine zQ ?_
    rw [e]
    rfl
  rw [Bool.true_and] at e
  cases c4
  · repeat (first | refine gG ?_ | refine zAl (fun _ => ?_) | refine zBf ?_)
    refine zCall (h1) ?_
    rintro _ rfl
    repeat (first | refine gG ?_ | refine zAl (fun _ => ?_) | refine zBf ?_)
    refine zPeek (h2) ?_
    rintro _ rfl
    refine ⟨rfl, ?_⟩
    repeat (first | refine gG ?_ | refine zAl (fun _ => ?_) | refine zBf ?_)
    refine zCall (h3) ?_
    rintro _ rfl
    repeat (first | refine gG ?_ | refine zAl (fun _ => ?_) | refine zBf ?_)
    refine zCall (h4) ?_
    rintro _ rfl
    repeat (first | refine gG ?_ | refine zAl (fun _ => ?_) | refine zBf ?_)
    first | refine zR ?_ | refine zQ ?_
    rw [e]
    rfl
  rw [Bool.true_and] at e
  cases c5
  · repeat (first | refine gG ?_ | refine zAl (fun _ => ?_) | refine zBf ?_)
    refine zCall (h1) ?_
    rintro _ rfl
    repeat (first | refine gG ?_ | refine zAl (fun _ => ?_) | refine zBf ?_)
    refine zPeek (h2) ?_
    rintro _ rfl
    refine ⟨rfl, ?_⟩
    repeat (first | refine gG ?_ | refine zAl (fun _ => ?_) | refine zBf ?_)
    refine zCall (h3) ?_
    rintro _ rfl
    repeat (first | refine gG ?_ | refine zAl (fun _ => ?_) | refine zBf ?_)
    refine zCall (h4) ?_
    rintro _ rfl
    repeat (first | refine gG ?_ | refine zAl (fun _ => ?_) | refine zBf ?_)
    refine zCall (h5) ?_
    rintro _ rfl
    repeat (first | refine gG ?_ | refine zAl (fun _ => ?_) | refine zBf ?_)
    first | refine zR ?_ | refine zQ ?_
    rw [e]
    rfl
  rw [Bool.true_and] at e
  cases c6
  · repeat (first | refine gG ?_ | refine zAl (fun _ => ?_) | refine zBf ?_)
    refine zCall (h1) ?_
    rintro _ rfl
    repeat (first | refine gG ?_ | refine zAl (fun _ => ?_) | refine zBf ?_)
    refine zPeek (h2) ?_
    rintro _ rfl
    refine ⟨rfl, ?_⟩
    repeat (first | refine gG ?_ | refine zAl (fun _ => ?_) | refine zBf ?_)
    refine zCall (h3) ?_
    rintro _ rfl
    repeat (first | refine gG ?_ | refine zAl (fun _ => ?_) | refine zBf ?_)
    refine zCall (h4) ?_
    rintro _ rfl
    repeat (first | refine gG ?_ | refine zAl (fun _ => ?_) | refine zBf ?_)
    refine zCall (h5) ?_
    rintro _ rfl
    repeat (first | refine gG ?_ | refine zAl (fun _ => ?_) | refine zBf ?_)
    refine zCall (h6) ?_
    rintro _ rfl
    repeat (first | refine gG ?_ | refine zAl (fun _ => ?_) | refine zBf ?_)
    first | refine zR ?_ | refine zQ ?_
    rw [e]
    rfl
  repeat (first | refine gG ?_ | refine zAl (fun _ => ?_) | refine zBf ?_)
  refine zCall (h1) ?_
  rintro _ rfl
  repeat (first | refine gG ?_ | refine zAl (fun _ => ?_) | refine zBf ?_)
  refine zPeek (h2) ?_
  rintro _ rfl
  refine ⟨rfl, ?_⟩
  repeat (first | refine gG ?_ | refine zAl (fun _ => ?_) | refine zBf ?_)
  refine zCall (h3) ?_
  rintro _ rfl
  repeat (first | refine gG ?_ | refine zAl (fun _ => ?_) | refine zBf ?_)
  refine zCall (h4) ?_
  rintro _ rfl
  repeat (first | refine gG ?_ | refine zAl (fun _ => ?_) | refine zBf ?_)
  refine zCall (h5) ?_
  rintro _ rfl
  repeat (first | refine gG ?_ | refine zAl (fun _ => ?_) | refine zBf ?_)
  refine zCall (h6) ?_
  rintro _ rfl
  repeat (first | refine gG ?_ | refine zAl (fun _ => ?_) | refine zBf ?_)
  first | refine zR ?_ | refine zQ ?_
  rw [e]
  rfl
end Go.Proofs.YtllgibfmddihgaaDoor
