/-
  Texts of this proof, part 6: Tsm Tpb Tpr Twi Tap Tck.
-/
import Derived.Test.YthgackidonocpaaGreatQStoreLast5
import Derived.MapKept
namespace Go.Proofs.YthgackidonocpaaGreat
open Go.RowKit
/-- it is a bool -/
def Tell (t : T) : Prop := ∃ b : Bool, t = .lit (.bool b)
theorem nth {α : Type} {l : List α} {k : Nat} (h : k < l.length) : ∃ a, l[k]? = some a := ⟨_, List.getElem?_eq_getElem h⟩
def V.args : V → List V
  | .mk _ _ _ l => l
theorem V.sizes_app (l r : List V) : V.sizes (l ++ r) = V.sizes l + V.sizes r := by
  induction l with
  | nil => simp [V.sizes]
  | cons v l ih => simp only [List.cons_append, V.sizes, ih]; omega
theorem V.sizes_flat : ∀ l : List V, V.sizes (l.flatMap V.args) + l.length = V.sizes l
  | [] => rfl
  | .mk _ _ _ a :: l => by
    have := V.sizes_flat l
    simp only [List.flatMap_cons, V.args, V.sizes_app, V.sizes, V.size, List.length_cons]
    omega
theorem V.take_sizes (l : List V) (k : Nat) : V.sizes (l.take k) ≤ V.sizes l := by
  have := V.sizes_app (l.take k) (l.drop k)
  rw [List.take_append_drop] at this
  omega
theorem flat_snoc' {α β : Type} (f : α → List β) {l : List α} {k : Nat} {a : α} (h : l[k]? = some a) : (l.take (k + 1)).flatMap f = (l.take k).flatMap f ++ f a := by
  obtain ⟨h1, rfl⟩ := List.getElem?_eq_some_iff.1 h
  rw [List.take_succ_eq_append_getElem h1, List.flatMap_append]
  simp
set_option maxRecDepth 100000 in
set_option maxHeartbeats 2000000 in
theorem valueSmall_af (v : V) (hv : v.size ≤ 1048576) : AF Tryz.prog 28 [v.t] Tell := by
  obtain ⟨k0, n0, t0, l0⟩ := v
  refine af_enter tok Tryz.func28 Tryz.ntmps28 Tryz.results28 rfl (by kernel_rfl) rfl rfl fun F hX => ?_
  repeat (first | refine gG ?_ | refine zN1 (fun hlen => ?_) | refine zN2 (fun hlen => ?_) | refine zAl (fun _ => ?_) | refine zBx (fun _ => ?_) | refine zAp (fun _ => ?_))
  rename_i b0
  refine x_loop [2, 3, 4, 5, 6, 8, 11, 12, 13, 14, 15, 16, 17, 18, 19, 20, 21, 22, 23, 24, 25, 26, 27, 28, 29, 30, 31, 32, 33, 34, 35, 36, 37] (fun y : List V × Nat × Nat => [(3, .c (V.row y.1)), (4, .c (.lit (.int .i64 (y.2.1 : Nat)))), (5, .c (.lit (.int .i64 (y.2.2 : Nat))))]) (fun _ => [.box b0 61 [.c (.lit (.int .i64 k0)), .c (.lit (.int .i64 n0)), .c (.lit (.string t0)), .c (V.row l0)]])
    (fun y => V.sizes y.1 ≤ 1048576 ∧ y.2.1 ≤ 3000 ∧ y.2.2 ≤ 301) (fun y => 302 - y.2.2) ([.mk k0 n0 t0 l0], 0, 0) ⟨by simpa [V.sizes] using hv, by simp, by simp⟩ ⟨rfl, rfl, rfl, trivial⟩ rfl ?_
  rintro ⟨l, n, dp⟩ ⟨hl, hn, hdp⟩
  dsimp only at hl hn hdp ⊢
  have hll := V.len_sizes l
  repeat (first | refine gG ?_ | refine zN1 (fun hlen => ?_) | refine zN2 (fun hlen => ?_) | refine zAl (fun _ => ?_) | refine zBx (fun _ => ?_) | refine zAp (fun _ => ?_))
  refine x_cond rfl (fun h => ?_) (fun h => ?_)
  · repeat (first | refine gG ?_ | refine zN1 (fun hlen => ?_) | refine zN2 (fun hlen => ?_) | refine zAl (fun _ => ?_) | refine zBx (fun _ => ?_) | refine zAp (fun _ => ?_))
    refine lo_add rfl rfl (r := ((n + l.length : Nat) : Int)) (by rw [IntWalk.i64_in _ (by omega)]; omega) ?_
    cases d1 : decide ((300 : Int) < (dp : Int))
    · cases d2 : decide ((3000 : Int) < ((n + l.length : Nat) : Int))
      · have hd1 : ¬ (300 : Int) < (dp : Int) := of_decide_eq_false d1
        have hd2 : ¬ (3000 : Int) < ((n + l.length : Nat) : Int) := of_decide_eq_false d2
        repeat (first | refine gG ?_ | refine zN1 (fun hlen => ?_) | refine zN2 (fun hlen => ?_) | refine zAl (fun _ => ?_) | refine zBx (fun _ => ?_) | refine zAp (fun _ => ?_))
        refine x_own 6 61 4 rfl rfl rfl rfl rfl ?_
        refine x_loop [6, 8, 28, 29, 30, 31, 32, 33, 34, 35, 36] (fun y : Nat × Value => [(28, .c (.lit (.int .i64 (y.1 : Nat)))), (6, .own 1 y.2)]) (fun y => [.box b0 61 [.c (.lit (.int .i64 k0)), .c (.lit (.int .i64 n0)), .c (.lit (.string t0)), .c (V.row l0)], .row y.2 61 4 ((l.take y.1).flatMap V.args).length (V.all ((l.take y.1).flatMap V.args))])
          (fun y => y.1 ≤ l.length) (fun y => l.length - y.1) (0, .slice none 0 0) (Nat.zero_le _) ⟨rfl, rfl, trivial⟩ rfl ?_
        rintro ⟨k, v⟩ hk
        dsimp only at hk ⊢
        repeat (first | refine gG ?_ | refine zN1 (fun hlen => ?_) | refine zN2 (fun hlen => ?_) | refine zAl (fun _ => ?_) | refine zBx (fun _ => ?_) | refine zAp (fun _ => ?_))
        refine x_cond rfl (fun h => ?_) (fun h => ?_)
        · have hk' : k < l.length := by simpa using h
          obtain ⟨a, ha⟩ := nth hk'
          have hsn := flat_snoc' V.args ha
          have hsz : ((l.take k).flatMap V.args).length + a.args.length ≤ 1048576 := by
            have h1 := V.len_sizes ((l.take (k + 1)).flatMap V.args)
            have h2 := V.sizes_flat (l.take (k + 1))
            have h3 := V.take_sizes l (k + 1)
            rw [hsn] at h1 h2
            rw [List.length_append] at h1
            omega
          repeat (first | refine gG ?_ | refine zN1 (fun hlen => ?_) | refine zN2 (fun hlen => ?_) | refine zAl (fun _ => ?_) | refine zBx (fun _ => ?_) | refine zAp (fun _ => ?_))
          refine zIx (k) (hk') ?_
          repeat (first | refine gG ?_ | refine zN1 (fun hlen => ?_) | refine zN2 (fun hlen => ?_) | refine zAl (fun _ => ?_) | refine zBx (fun _ => ?_) | refine zAp (fun _ => ?_))
          refine zEl (V.at ha) (V.ts_len a) ?_
          obtain ⟨ka, na, ta, la⟩ := a
          simp only [V.args] at hsz hsn
          repeat (first | refine gG ?_ | refine zN1 (fun hlen => ?_) | refine zN2 (fun hlen => ?_) | refine zAl (fun _ => ?_) | refine zBx (fun _ => ?_) | refine zAp (fun _ => ?_))
          exact ⟨(k + 1, _), hk', by simp only; omega, x_wkd 2 ⟨rfl, rfl, trivial⟩ (by simp only [hsn, V.all_app, List.length_append]; rfl) (by repeat (first | exact ag_refl | refine ag_upd rfl ?_ | refine ag_at rfl rfl ?_))⟩
        · have hk' : k = l.length := by have : ¬ k < l.length := by simpa using h
                                        omega
          subst hk'
          repeat (first | refine gG ?_ | refine zN1 (fun hlen => ?_) | refine zN2 (fun hlen => ?_) | refine zAl (fun _ => ?_) | refine zBx (fun _ => ?_) | refine zAp (fun _ => ?_))
          refine ⟨(l.flatMap V.args, n + l.length, dp + 1), ⟨?_, by simp only; omega, by simp only; omega⟩, by simp only; omega, (wk_frz hX 3 rfl rfl rfl rfl).trans (x_wkd 1 ⟨?_, rfl, rfl, trivial⟩ rfl (by repeat (first | exact ag_refl | refine ag_upd rfl ?_ | refine ag_at rfl rfl ?_)))⟩
          · have := V.sizes_flat l; simp only; omega
          · simp only [List.take_length]; rfl
      · repeat (first | refine gG ?_ | refine zN1 (fun hlen => ?_) | refine zN2 (fun hlen => ?_) | refine zAl (fun _ => ?_) | refine zBx (fun _ => ?_) | refine zAp (fun _ => ?_))
        first | refine zR ?_ | refine zQ ?_
        exact ⟨_, rfl⟩
    · repeat (first | refine gG ?_ | refine zN1 (fun hlen => ?_) | refine zN2 (fun hlen => ?_) | refine zAl (fun _ => ?_) | refine zBx (fun _ => ?_) | refine zAp (fun _ => ?_))
      first | refine zR ?_ | refine zQ ?_
      exact ⟨_, rfl⟩
  · repeat (first | refine gG ?_ | refine zN1 (fun hlen => ?_) | refine zN2 (fun hlen => ?_) | refine zAl (fun _ => ?_) | refine zBx (fun _ => ?_) | refine zAp (fun _ => ?_))
    first | refine zR ?_ | refine zQ ?_
    exact ⟨_, rfl⟩
set_option maxRecDepth 100000 in
set_option maxHeartbeats 1000000 in
theorem valuesSmall_af (l : List V) (hl : ∀ v ∈ l, v.size ≤ 1048576) (hn : l.length ≤ 1048576) : AF Tryz.prog 76 [V.row l] Tell := by
  refine af_enter tok Tryz.func76 Tryz.ntmps76 Tryz.results76 rfl (by kernel_rfl) rfl rfl fun F hX => ?_
  repeat (first | refine gG ?_ | refine zN1 (fun hlen => ?_) | refine zN2 (fun hlen => ?_) | refine zAl (fun _ => ?_))
  refine x_loop [2, 4, 7, 8, 9, 10, 11, 12, 13, 14] (fun k : Nat => [(7, .c (.lit (.int .i64 k)))]) (fun _ => []) (fun k => k ≤ l.length) (fun k => l.length - k) 0 (Nat.zero_le _) ⟨rfl, trivial⟩ rfl fun k hk => ?_
  repeat (first | refine gG ?_ | refine zN1 (fun hlen => ?_) | refine zN2 (fun hlen => ?_) | refine zAl (fun _ => ?_))
  refine x_cond rfl (fun h => ?_) (fun h => ?_)
  · have hk' : k < l.length := by simpa using h
    obtain ⟨a, ha⟩ := nth hk'
    have hs := valueSmall_af a (hl a (List.mem_of_getElem? ha))
    repeat (first | refine gG ?_ | refine zN1 (fun hlen => ?_) | refine zN2 (fun hlen => ?_) | refine zAl (fun _ => ?_))
    refine zIx (k) (hk') ?_
    repeat (first | refine gG ?_ | refine zN1 (fun hlen => ?_) | refine zN2 (fun hlen => ?_) | refine zAl (fun _ => ?_))
    refine zEl (V.at ha) (V.ts_len a) ?_
    obtain ⟨ka, na, ta, la⟩ := a
    repeat (first | refine gG ?_ | refine zN1 (fun hlen => ?_) | refine zN2 (fun hlen => ?_) | refine zAl (fun _ => ?_))
    refine zCall (hs) ?_
    rintro _ ⟨b, rfl⟩
    repeat (first | refine gG ?_ | refine zN1 (fun hlen => ?_) | refine zN2 (fun hlen => ?_) | refine zAl (fun _ => ?_))
    refine x_cond rfl (fun h => ?_) (fun h => ?_)
    · repeat (first | refine gG ?_ | refine zN1 (fun hlen => ?_) | refine zN2 (fun hlen => ?_) | refine zAl (fun _ => ?_))
      first | refine zR ?_ | refine zQ ?_
      exact ⟨_, rfl⟩
    · repeat (first | refine gG ?_ | refine zN1 (fun hlen => ?_) | refine zN2 (fun hlen => ?_) | refine zAl (fun _ => ?_))
      exact ⟨k + 1, hk', by omega, x_wkd 0 ⟨rfl, trivial⟩ rfl (by repeat (first | exact ag_refl | refine ag_upd rfl ?_ | refine ag_at rfl rfl ?_))⟩
  · repeat (first | refine gG ?_ | refine zN1 (fun hlen => ?_) | refine zN2 (fun hlen => ?_) | refine zAl (fun _ => ?_))
    first | refine zR ?_ | refine zQ ?_
    exact ⟨_, rfl⟩
end Go.Proofs.YthgackidonocpaaGreat
namespace Go.Proofs.YthgackidonocpaaGreat
open Go.RowKit
/-- 0, -1, 1, -2, 2 and so on asq 0, 1, 2, 3, 4 -/
def zz (n : Int) : Nat := if 0 ≤ n then (2 * n).toNat else (2 * (-n - 1) + 1).toNat
def inI (n : Int) : Prop := -9223372036854775808 ≤ n ∧ n ≤ 9223372036854775807
theorem zz_lt {n : Int} (h : inI n) : zz n < 2 ^ 64 := by
  unfold zz; unfold inI at h
  split <;> omega
/-- a number's lowest byte -/
def kb (k : Int) : UInt8 := UInt8.ofNat (k % 256).toNat
mutual
def V.bytes : V → List UInt8
  | .mk k n t l => kb k :: (uv (zz n) ++ (uv t.size ++ (t.data.toList ++ (uv l.length ++ V.bytesAll l))))
def V.bytesAll : List V → List UInt8
  | [] => []
  | v :: r => v.bytes ++ V.bytesAll r
end
theorem V.bytesAll_eq : ∀ l : List V, V.bytesAll l = l.flatMap V.bytes
  | [] => rfl
  | v :: l => by rw [V.bytesAll, V.bytesAll_eq l]; rfl
mutual
/-- every number is in range -/
def V.ok : V → Prop
  | .mk _ n _ l => inI n ∧ V.oks l
def V.oks : List V → Prop
  | [] => True
  | v :: r => v.ok ∧ V.oks r
end
theorem V.oks_iff : ∀ l : List V, V.oks l ↔ ∀ v ∈ l, v.ok
  | [] => by simp [V.oks]
  | v :: l => by simp [V.oks, V.oks_iff l]
mutual
/-- the bytes of its texts -/
def V.txt : V → Nat
  | .mk _ _ t l => t.size + V.txts l
def V.txts : List V → Nat
  | [] => 0
  | v :: r => v.txt + V.txts r
end
theorem uv_len_pos (n : Nat) : 1 ≤ (uv n).length := by
  by_cases h : n < 128
  · rw [uv_small h]; simp
  · rw [uv_big h]; simp
mutual
theorem V.bytes_len : ∀ v : V, v.ok → v.size ≤ 1048576 → v.txt ≤ 1048576 → v.bytes.length ≤ 32 * v.size + v.txt
  | .mk k n t l, ho, hs, ht => by
    simp only [V.ok, V.size, V.txt] at ho hs ht
    have h1 := uv_len64 (zz_lt ho.1)
    have h2 := uv_len64 (n := t.size) (by omega)
    have h3 := uv_len64 (n := l.length) (by have := V.len_sizes l; omega)
    have h4 := V.bytesAll_len l ho.2 (by omega) (by omega)
    simp only [V.bytes, V.size, V.txt, List.length_cons, List.length_append, sz_len]
    omega
theorem V.bytesAll_len : ∀ l : List V, V.oks l → V.sizes l ≤ 1048576 → V.txts l ≤ 1048576 → (V.bytesAll l).length ≤ 32 * V.sizes l + V.txts l
  | [], _, _, _ => by simp [V.bytesAll]
  | v :: l, ho, hs, ht => by
    simp only [V.oks, V.sizes, V.txts] at ho hs ht
    have h1 := V.bytes_len v ho.1 (by omega) (by omega)
    have h2 := V.bytesAll_len l ho.2 (by omega) (by omega)
    simp only [V.bytesAll, V.sizes, V.txts, List.length_append]
    omega
end
mutual
/-- every node of it, with how deep it lies -/
def V.every (p : V → Nat → Bool) : V → Nat → Bool
  | .mk k n t l, d => p (.mk k n t l) d && V.everys p l (d + 1)
def V.everys (p : V → Nat → Bool) : List V → Nat → Bool
  | [], _ => true
  | v :: r, d => v.every p d && V.everys p r d
end
theorem V.everys_eq (p : V → Nat → Bool) (d : Nat) : ∀ l : List V, V.everys p l d = l.all fun v => v.every p d
  | [] => rfl
  | v :: l => by rw [V.everys, V.everys_eq p d l]; rfl
def V.num : V → Int
  | .mk _ n _ _ => n
def V.kind : V → Int
  | .mk k _ _ _ => k
def V.text : V → ByteArray
  | .mk _ _ t _ => t
end Go.Proofs.YthgackidonocpaaGreat
namespace Go.Proofs.YthgackidonocpaaGreat
open Go.RowKit
structure RS where
  l : List UInt8
  bad : Bool
  dep : Nat
def RS.fail (s : RS) : RS := { s with bad := true }
def rByte (s : RS) : Nat × RS := match s.l with | [] => (0, s.fail) | a :: r => (a.toNat, { s with l := r })
def rUns : Nat → Nat → Nat → RS → Nat × RS
  | 0, _, _, s => (0, s.fail)
  | k + 1, i, u, s =>
    if (rByte s).2.bad || (decide (i = 9) && decide (1 < (rByte s).1)) || (decide (0 < i) && decide ((rByte s).1 = 0)) then (0, (rByte s).2.fail)
    else if (rByte s).1 < 128 then (u + (rByte s).1 * 128 ^ i, (rByte s).2) else rUns k (i + 1) (u + ((rByte s).1 - 128) * 128 ^ i) (rByte s).2
def rU (s : RS) : Nat × RS := rUns 10 0 0 s
def rNat (s : RS) : Nat × RS := if 9223372036854775807 < (rU s).1 then (0, (rU s).2.fail) else rU s
def dz (u : Nat) : Int := if u % 2 = 0 then ((u / 2 : Nat) : Int) else -((u / 2 : Nat) : Int) - 1
def rInt (s : RS) : Int × RS := (dz (rU s).1, (rU s).2)
def rCount (s : RS) : Nat × RS := if (rNat s).2.l.length < (rNat s).1 then (0, (rNat s).2.fail) else rNat s
def rText (s : RS) : List UInt8 × RS := ((rCount s).2.l.take (rCount s).1, { (rCount s).2 with l := (rCount s).2.l.drop (rCount s).1 })
def rLoop {α : Type} (g : RS → α × RS) : Nat → RS → List α × RS
  | 0, s => ([], s)
  | n + 1, s => if s.bad then ([], s) else ((g s).1 :: (rLoop g n (g s).2).1, (rLoop g n (g s).2).2)
def rSome {α : Type} (g : RS → α × RS) (s : RS) : List α × RS := rLoop g (rCount s).1 (rCount s).2
def V.zero : V := .mk 0 0 ⟨#[]⟩ []
def RS.up (s : RS) : RS := { s with dep := s.dep + 1 }
def RS.down (s : RS) : RS := { s with dep := s.dep - 1 }
def rVal : Nat → RS → V × RS
  | 0, s => (V.zero, s.up.fail)
  | f + 1, s =>
    if 40 < s.dep + 1 then (V.zero, s.up.fail)
    else
      let p1 := rByte s.up
      let p2 := rInt p1.2
      let p3 := rText p2.2
      let p4 := rSome (rVal f) p3.2
      (.mk p1.1 p2.1 (bs p3.1) p4.1, p4.2.down)
theorem rByte_ok {s s' : RS} {b : Nat} (h : rByte s = (b, s')) (hb : s'.bad = false) : ∃ a : UInt8, b = a.toNat ∧ s = ⟨a :: s'.l, false, s'.dep⟩ := by
  obtain ⟨l, bad, d⟩ := s
  cases l with
  | nil => simp only [rByte, RS.fail, Prod.mk.injEq] at h; rw [← h.2] at hb; cases hb
  | cons a r =>
    simp only [rByte, Prod.mk.injEq] at h
    obtain ⟨rfl, rfl⟩ := h
    dsimp only at hb
    exact ⟨a, rfl, by rw [hb]⟩
theorem pow7 {i : Nat} (h : i ≤ 8) : 2 ^ (64 - 7 * i) = 128 * 2 ^ (64 - 7 * (i + 1)) := by
  rw [show 64 - 7 * i = 7 + (64 - 7 * (i + 1)) by omega, Nat.pow_add]
theorem rUns_ok : ∀ (k i u : Nat) (s s' : RS) (x : Nat), i + k = 10 → rUns k i u s = (x, s') → s'.bad = false → ∃ y, s = ⟨uv y ++ s'.l, false, s'.dep⟩ ∧ x = u + y * 128 ^ i ∧ (0 < i → 0 < y) ∧ y < 2 ^ (64 - 7 * i)
  | 0, i, u, s, s', x, _, h, hb => by
    simp only [rUns, RS.fail, Prod.mk.injEq] at h
    rw [← h.2] at hb; cases hb
  | k + 1, i, u, s, s', x, hk, h, hb => by
    rw [rUns] at h
    split at h
    · simp only [RS.fail, Prod.mk.injEq] at h
      rw [← h.2] at hb; cases hb
    · rename_i hc
      simp only [Bool.or_eq_true, Bool.and_eq_true, decide_eq_true_eq, not_or, Bool.not_eq_true] at hc
      obtain ⟨⟨hc1, hc2⟩, hc3⟩ := hc
      obtain ⟨a, ha, hs⟩ := rByte_ok (s := s) (s' := (rByte s).2) (b := (rByte s).1) rfl hc1
      have ha2 : a.toNat < 256 := a.toNat_lt
      rw [ha] at h hc2 hc3
      split at h
      · rename_i hlt
        simp only [Prod.mk.injEq] at h
        obtain ⟨rfl, h2⟩ := h
        refine ⟨a.toNat, ?_, rfl, fun hi => ?_, ?_⟩
        · rw [uv_small hlt, hs, h2]
          simp
        · rcases Nat.eq_zero_or_pos a.toNat with h0 | h0
          · exact absurd ⟨hi, h0⟩ hc3
          · exact h0
        · by_cases h9 : i = 9
          · subst h9
            have : ¬ 1 < a.toNat := fun h => hc2 ⟨rfl, h⟩
            have e : 2 ^ (64 - 7 * 9) = 2 := rfl
            omega
          · rw [pow7 (by omega)]
            have := Nat.pos_of_ne_zero (Nat.ne_of_gt (Nat.two_pow_pos (64 - 7 * (i + 1))))
            calc a.toNat < 128 * 1 := by omega
              _ ≤ _ := Nat.mul_le_mul_left _ this
      · rename_i hge
        obtain ⟨y, h1, h2, h3, h4⟩ := rUns_ok k (i + 1) _ _ _ _ (by omega) h hb
        have hy := h3 (by omega)
        have hi8 : i ≤ 8 := by
          rcases Nat.lt_or_ge i 9 with h | h
          · omega
          · have : i = 9 := by omega
            subst this
            exact absurd ⟨rfl, by omega⟩ hc2
        refine ⟨a.toNat - 128 + 128 * y, ?_, ?_, fun _ => by omega, ?_⟩
        · have e1 : (a.toNat - 128 + 128 * y) % 128 + 128 = a.toNat := by omega
          have e2 : (a.toNat - 128 + 128 * y) / 128 = y := by omega
          rw [uv_big (by omega), e1, e2, hs, h1]
          simp
        · rw [h2, Nat.pow_succ, Nat.add_mul]
          have : y * (128 ^ i * 128) = 128 * y * 128 ^ i := by
            rw [Nat.mul_comm (128 ^ i) 128, ← Nat.mul_assoc, Nat.mul_comm y 128]
          omega
        · rw [pow7 hi8]
          omega
theorem rUns_to : ∀ (k i u y : Nat) (r : List UInt8) (d : Nat), i + k = 10 → i ≤ 9 → (0 < i → 0 < y) → y < 2 ^ (64 - 7 * i) → rUns k i u ⟨uv y ++ r, false, d⟩ = (u + y * 128 ^ i, ⟨r, false, d⟩)
  | 0, i, _, _, _, _, h, h9, _, _ => by omega
  | k + 1, i, u, y, r, d, hk, h9, hp, hlt => by
    rw [rUns]
    by_cases hy : y < 128
    · have hb : rByte ⟨uv y ++ r, false, d⟩ = (y, ⟨r, false, d⟩) := by
        rw [uv_small hy]
        simp only [rByte, List.cons_append, List.nil_append]
        rw [UInt8.toNat_ofNat', Nat.mod_eq_of_lt (by omega)]
      rw [hb]
      have hc : ¬ ((false || (decide (i = 9) && decide (1 < y)) || (decide (0 < i) && decide (y = 0))) = true) := by
        simp only [Bool.or_eq_true, Bool.and_eq_true, decide_eq_true_eq, not_or]
        refine ⟨⟨by simp, fun ⟨h1, h2⟩ => ?_⟩, fun ⟨h1, h2⟩ => ?_⟩
        · subst h1
          have e : 2 ^ (64 - 7 * 9) = 2 := rfl
          omega
        · have := hp h1; omega
      rw [if_neg hc, if_pos hy]
    · have hi8 : i ≤ 8 := by
        rcases Nat.lt_or_ge i 9 with h | h
        · omega
        · have : i = 9 := by omega
          subst this
          have e : 2 ^ (64 - 7 * 9) = 2 := rfl
          omega
      have hb : rByte ⟨uv y ++ r, false, d⟩ = (y % 128 + 128, ⟨uv (y / 128) ++ r, false, d⟩) := by
        rw [uv_big hy]
        simp only [rByte, List.cons_append]
        rw [UInt8.toNat_ofNat', Nat.mod_eq_of_lt (by omega)]
      rw [hb]
      have hc : ¬ ((false || (decide (i = 9) && decide (1 < y % 128 + 128)) || (decide (0 < i) && decide (y % 128 + 128 = 0))) = true) := by
        simp only [Bool.or_eq_true, Bool.and_eq_true, decide_eq_true_eq, not_or]
        exact ⟨⟨by simp, fun ⟨h1, _⟩ => by omega⟩, fun ⟨_, h2⟩ => by omega⟩
      rw [if_neg hc, if_neg (by omega)]
      rw [pow7 hi8] at hlt
      rw [rUns_to k (i + 1) _ (y / 128) r d (by omega) (by omega) (fun _ => by omega) (by omega)]
      congr 1
      rw [Nat.pow_succ, show y % 128 + 128 - 128 = y % 128 by omega]
      have : y / 128 * (128 ^ i * 128) = 128 * (y / 128) * 128 ^ i := by
        rw [Nat.mul_comm (128 ^ i) 128, ← Nat.mul_assoc, Nat.mul_comm (y / 128) 128]
      rw [this, Nat.add_assoc, ← Nat.add_mul]
      congr 2
      omega
theorem rU_ok {s s' : RS} {x : Nat} (h : rU s = (x, s')) (hb : s'.bad = false) : s = ⟨uv x ++ s'.l, false, s'.dep⟩ ∧ x < 2 ^ 64 := by
  obtain ⟨y, h1, h2, _, h4⟩ := rUns_ok 10 0 0 s s' x rfl h hb
  have : x = y := by simpa using h2
  subst this
  exact ⟨h1, h4⟩
theorem rU_to (x : Nat) (r : List UInt8) (d : Nat) (h : x < 2 ^ 64) : rU ⟨uv x ++ r, false, d⟩ = (x, ⟨r, false, d⟩) := by
  rw [rU, rUns_to 10 0 0 x r d rfl (by omega) (by omega) h]; simp
theorem rNat_ok {s s' : RS} {x : Nat} (h : rNat s = (x, s')) (hb : s'.bad = false) : s = ⟨uv x ++ s'.l, false, s'.dep⟩ ∧ x ≤ 9223372036854775807 := by
  unfold rNat at h
  split at h
  · simp only [RS.fail, Prod.mk.injEq] at h
    rw [← h.2] at hb; cases hb
  · rename_i hn
    rw [h] at hn
    exact ⟨(rU_ok h hb).1, by simpa using hn⟩
theorem rNat_to (x : Nat) (r : List UInt8) (d : Nat) (h : x ≤ 9223372036854775807) : rNat ⟨uv x ++ r, false, d⟩ = (x, ⟨r, false, d⟩) := by
  rw [rNat, rU_to x r d (by omega), if_neg (by simp only; omega)]
theorem dz_zz {n : Int} : dz (zz n) = n := by
  unfold dz zz
  split <;> split <;> omega
theorem zz_dz (u : Nat) : zz (dz u) = u := by
  unfold dz zz
  split <;> split <;> omega
theorem dz_in {u : Nat} (h : u < 2 ^ 64) : inI (dz u) := by
  unfold inI dz
  split <;> omega
theorem rInt_ok {s s' : RS} {x : Int} (h : rInt s = (x, s')) (hb : s'.bad = false) : s = ⟨uv (zz x) ++ s'.l, false, s'.dep⟩ ∧ inI x := by
  simp only [rInt, Prod.mk.injEq] at h
  obtain ⟨rfl, rfl⟩ := h
  obtain ⟨h1, h2⟩ := rU_ok (s := s) (s' := (rU s).2) (x := (rU s).1) rfl hb
  rw [zz_dz]
  exact ⟨h1, dz_in h2⟩
theorem rInt_to (x : Int) (r : List UInt8) (d : Nat) (h : inI x) : rInt ⟨uv (zz x) ++ r, false, d⟩ = (x, ⟨r, false, d⟩) := by
  rw [rInt, rU_to (zz x) r d (zz_lt h), dz_zz]
theorem rCount_ok {s s' : RS} {x : Nat} (h : rCount s = (x, s')) (hb : s'.bad = false) : s = ⟨uv x ++ s'.l, false, s'.dep⟩ ∧ x ≤ s'.l.length ∧ x ≤ 9223372036854775807 := by
  unfold rCount at h
  split at h
  · simp only [RS.fail, Prod.mk.injEq] at h
    rw [← h.2] at hb; cases hb
  · rename_i hn
    rw [h] at hn
    obtain ⟨h1, h2⟩ := rNat_ok h hb
    exact ⟨h1, by simpa using hn, h2⟩
theorem rCount_to (x : Nat) (r : List UInt8) (d : Nat) (h : x ≤ 9223372036854775807) (hr : x ≤ r.length) : rCount ⟨uv x ++ r, false, d⟩ = (x, ⟨r, false, d⟩) := by
  rw [rCount, rNat_to x r d h, if_neg (by simp only; omega)]
theorem rCount_le (s : RS) : (rCount s).1 ≤ (rCount s).2.l.length := by
  unfold rCount
  split
  · exact Nat.zero_le _
  · omega
theorem rText_ok {s s' : RS} {x : List UInt8} (h : rText s = (x, s')) (hb : s'.bad = false) : s = ⟨uv x.length ++ (x ++ s'.l), false, s'.dep⟩ ∧ x.length ≤ 9223372036854775807 := by
  simp only [rText, Prod.mk.injEq] at h
  obtain ⟨rfl, rfl⟩ := h
  obtain ⟨h1, h2, h3⟩ := rCount_ok (s := s) (s' := (rCount s).2) (x := (rCount s).1) rfl hb
  have hl : ((rCount s).2.l.take (rCount s).1).length = (rCount s).1 := by simp; omega
  rw [hl, List.take_append_drop]
  exact ⟨h1, h3⟩
theorem rText_to (x r : List UInt8) (d : Nat) (h : x.length ≤ 9223372036854775807) : rText ⟨uv x.length ++ (x ++ r), false, d⟩ = (x, ⟨r, false, d⟩) := by
  rw [rText, rCount_to x.length (x ++ r) d h (by simp)]
  simp
theorem rByte_dep (s : RS) : (rByte s).2.dep = s.dep := by
  obtain ⟨l, b, d⟩ := s
  cases l <;> rfl
theorem rUns_dep : ∀ (k i u : Nat) (s : RS), (rUns k i u s).2.dep = s.dep
  | 0, _, _, s => rfl
  | k + 1, i, u, s => by
    rw [rUns]
    split
    · exact rByte_dep s
    · split
      · exact rByte_dep s
      · rw [rUns_dep]; exact rByte_dep s
theorem rU_dep (s : RS) : (rU s).2.dep = s.dep := rUns_dep _ _ _ s
theorem rNat_dep (s : RS) : (rNat s).2.dep = s.dep := by
  unfold rNat
  split
  · exact rU_dep s
  · exact rU_dep s
theorem rCount_dep (s : RS) : (rCount s).2.dep = s.dep := by
  unfold rCount
  split
  · exact rNat_dep s
  · exact rNat_dep s
theorem rText_dep (s : RS) : (rText s).2.dep = s.dep := rCount_dep s
/-- what g reads without a fault is what enc writes -/
def Reads {α : Type} (g : RS → α × RS) (enc : α → List UInt8) (ok : α → Prop) : Prop :=
  ∀ s x s', g s = (x, s') → s'.bad = false → s = ⟨enc x ++ s'.l, false, s'.dep⟩ ∧ ok x
theorem rLoop_ok {α : Type} {g : RS → α × RS} {enc : α → List UInt8} {ok : α → Prop} (hg : Reads g enc ok) : ∀ (n : Nat) (s s' : RS) (l : List α), rLoop g n s = (l, s') → s'.bad = false → s = ⟨l.flatMap enc ++ s'.l, false, s'.dep⟩ ∧ (∀ x ∈ l, ok x) ∧ l.length = n
  | 0, s, s', l, h, hb => by
    simp only [rLoop, Prod.mk.injEq] at h
    obtain ⟨rfl, rfl⟩ := h
    obtain ⟨sl, sb, sd⟩ := s
    dsimp only at hb
    subst hb
    exact ⟨rfl, by simp, rfl⟩
  | n + 1, s, s', l, h, hb => by
    rw [rLoop] at h
    split at h
    · rename_i hbad
      simp only [Prod.mk.injEq] at h
      rw [h.2, hb] at hbad; cases hbad
    · generalize hgs : g s = p at h
      obtain ⟨x, s1⟩ := p
      dsimp only at h
      generalize hrl : rLoop g n s1 = q at h
      obtain ⟨r, s2⟩ := q
      simp only [Prod.mk.injEq] at h
      obtain ⟨rfl, rfl⟩ := h
      obtain ⟨h1, h2, h3⟩ := rLoop_ok hg n s1 _ _ hrl hb
      have hb2 : s1.bad = false := by rw [h1]
      obtain ⟨h4, h5⟩ := hg s x s1 hgs hb2
      refine ⟨?_, ?_, by simp [h3]⟩
      · rw [h4, h1]
        simp
      · intro y hy
        rcases List.mem_cons.1 hy with rfl | hy
        · exact h5
        · exact h2 y hy
theorem rLoop_to {α : Type} {g : RS → α × RS} {enc : α → List UInt8} : ∀ (l : List α) (r : List UInt8) (d : Nat), (∀ x ∈ l, ∀ r, g ⟨enc x ++ r, false, d⟩ = (x, ⟨r, false, d⟩)) → rLoop g l.length ⟨l.flatMap enc ++ r, false, d⟩ = (l, ⟨r, false, d⟩)
  | [], r, d, _ => rfl
  | a :: l, r, d, h => by
    rw [List.length_cons, rLoop, if_neg (by simp)]
    rw [List.flatMap_cons, List.append_assoc, h a (by simp)]
    dsimp only
    rw [rLoop_to l r d fun x hx => h x (List.mem_cons_of_mem _ hx)]
theorem rSome_ok {α : Type} {g : RS → α × RS} {enc : α → List UInt8} {ok : α → Prop} (hg : Reads g enc ok) {s s' : RS} {l : List α} (h : rSome g s = (l, s')) (hb : s'.bad = false) : s = ⟨uv l.length ++ (l.flatMap enc ++ s'.l), false, s'.dep⟩ ∧ (∀ x ∈ l, ok x) ∧ l.length ≤ 9223372036854775807 := by
  unfold rSome at h
  obtain ⟨h1, h2, h3⟩ := rLoop_ok hg _ _ _ _ h hb
  have hb2 : (rCount s).2.bad = false := by rw [h1]
  obtain ⟨h4, h5, h6⟩ := rCount_ok (s := s) (s' := (rCount s).2) (x := (rCount s).1) rfl hb2
  refine ⟨?_, h2, by omega⟩
  rw [h4, h3, h1]
theorem rSome_to {α : Type} {g : RS → α × RS} {enc : α → List UInt8} (l : List α) (r : List UInt8) (d : Nat) (hl : l.length ≤ 9223372036854775807) (h1 : ∀ x ∈ l, 1 ≤ (enc x).length) (h : ∀ x ∈ l, ∀ r, g ⟨enc x ++ r, false, d⟩ = (x, ⟨r, false, d⟩)) : rSome g ⟨uv l.length ++ (l.flatMap enc ++ r), false, d⟩ = (l, ⟨r, false, d⟩) := by
  have hlen : ∀ l : List α, (∀ x ∈ l, 1 ≤ (enc x).length) → l.length ≤ (l.flatMap enc).length := by
    intro l
    induction l with
    | nil => simp
    | cons a l ih =>
      intro h
      have h2 := ih fun x hx => h x (List.mem_cons_of_mem _ hx)
      have h3 := h a (by simp)
      simp only [List.flatMap_cons, List.length_append, List.length_cons]
      omega
  have := hlen l h1
  rw [rSome, rCount_to l.length _ d hl (by simp only [List.length_append]; omega)]
  exact rLoop_to l r d h
mutual
/-- kinds are bytes -/
def V.kin : V → Prop
  | .mk k _ _ l => (0 ≤ k ∧ k < 256) ∧ V.kins l
def V.kins : List V → Prop
  | [] => True
  | v :: r => v.kin ∧ V.kins r
end
theorem V.kins_iff : ∀ l : List V, V.kins l ↔ ∀ v ∈ l, v.kin
  | [] => by simp [V.kins]
  | v :: l => by simp [V.kins, V.kins_iff l]
theorem kb_nat (a : UInt8) : kb (a.toNat : Int) = a := by
  unfold kb
  have h := a.toNat_lt
  have : ((a.toNat : Int) % 256).toNat = a.toNat := by omega
  rw [this]
  simp
theorem toNat_kb {k : Int} (h : 0 ≤ k ∧ k < 256) : (((kb k).toNat : Nat) : Int) = k := by
  unfold kb
  rw [UInt8.toNat_ofNat', Nat.mod_eq_of_lt (by omega)]
  omega
theorem rVal_ok : ∀ f, Reads (rVal f) V.bytes fun v => v.ok ∧ v.kin
  | 0, s, v, s', h, hb => by
    simp only [rVal, RS.fail, Prod.mk.injEq] at h
    rw [← h.2] at hb; cases hb
  | f + 1, s, v, s', h, hb => by
    rw [rVal] at h
    split at h
    · simp only [RS.fail, Prod.mk.injEq] at h
      rw [← h.2] at hb; cases hb
    · dsimp only at h
      generalize e1 : rByte s.up = p1 at h
      obtain ⟨x1, s1⟩ := p1
      dsimp only at h
      generalize e2 : rInt s1 = p2 at h
      obtain ⟨x2, s2⟩ := p2
      dsimp only at h
      generalize e3 : rText s2 = p3 at h
      obtain ⟨x3, s3⟩ := p3
      dsimp only at h
      generalize e4 : rSome (rVal f) s3 = p4 at h
      obtain ⟨x4, s4⟩ := p4
      simp only [Prod.mk.injEq] at h
      obtain ⟨rfl, rfl⟩ := h
      simp only [RS.down] at hb
      obtain ⟨g1, g2, g3⟩ := rSome_ok (rVal_ok f) e4 hb
      obtain ⟨g4, g5⟩ := rText_ok e3 (by rw [g1])
      obtain ⟨g6, g7⟩ := rInt_ok e2 (by rw [g4])
      obtain ⟨a, g8, g9⟩ := rByte_ok e1 (by rw [g6])
      refine ⟨?_, ⟨?_, ?_⟩⟩
      · have e : s = s.up.down := by obtain ⟨l, b, d⟩ := s; rfl
        rw [e, g9, g6, g4, g1]
        simp only [RS.down, V.bytes, V.bytesAll_eq, g8, kb_nat, List.append_assoc, List.cons_append, bs_size']
        simp [bs]
      · simp only [V.ok]
        exact ⟨g7, (V.oks_iff _).2 fun x hx => (g2 x hx).1⟩
      · simp only [V.kin, g8]
        exact ⟨⟨by omega, by have := a.toNat_lt; omega⟩, (V.kins_iff _).2 fun x hx => (g2 x hx).2⟩
/-- how deep it is at most -/
def V.low (v : V) (d : Nat) : Bool := v.every (fun _ e => decide (e ≤ 40)) d
theorem V.bytes_pos (v : V) : 1 ≤ v.bytes.length := by
  obtain ⟨k, n, t, l⟩ := v
  simp [V.bytes]
theorem rVal_to (v : V) : ∀ (f d : Nat) (r : List UInt8), v.ok → v.kin → v.bytes.length ≤ 9223372036854775807 → v.low (d + 1) = true → 40 ≤ d + f → rVal f ⟨v.bytes ++ r, false, d⟩ = (v, ⟨r, false, d⟩) := by
  induction v using V.ind with
  | h k n t l ih =>
    intro f d r hok hkin hlen hlow hf
    simp only [V.low, V.every, V.everys_eq, Bool.and_eq_true, decide_eq_true_eq, List.all_eq_true] at hlow
    obtain ⟨hd, hsub⟩ := hlow
    simp only [V.ok] at hok
    simp only [V.kin] at hkin
    obtain ⟨g, rfl⟩ : ∃ g, f = g + 1 := ⟨f - 1, by omega⟩
    rw [rVal, if_neg (by simp only; omega)]
    have hb : rByte (RS.up ⟨(V.mk k n t l).bytes ++ r, false, d⟩) = ((kb k).toNat, ⟨uv (zz n) ++ (uv t.size ++ (t.data.toList ++ (uv l.length ++ (l.flatMap V.bytes ++ r)))), false, d + 1⟩) := by
      simp only [V.bytes, V.bytesAll_eq, RS.up, rByte, List.cons_append, List.append_assoc]
    simp only [V.bytes, V.bytesAll_eq, List.length_cons, List.length_append, sz_len] at hlen
    have hl1 : ∀ x ∈ l, x.bytes.length ≤ (l.flatMap V.bytes).length := by
      intro x hx
      obtain ⟨i, hi⟩ := List.mem_iff_getElem?.1 hx
      have h1 := flat_snoc' V.bytes hi
      have h2 := congrArg (fun r => (List.flatMap V.bytes r).length) (List.take_append_drop (i + 1) l)
      simp only [List.flatMap_append, List.length_append] at h2
      rw [h1, List.length_append] at h2
      omega
    have hll : l.length ≤ (l.flatMap V.bytes).length := by
      clear ih hl1 hsub hok hkin hb hlen
      induction l with
      | nil => simp
      | cons a l ih => have := V.bytes_pos a; simp only [List.flatMap_cons, List.length_append, List.length_cons]; omega
    have hs : rSome (rVal g) ⟨uv l.length ++ (l.flatMap V.bytes ++ r), false, d + 1⟩ = (l, ⟨r, false, d + 1⟩) := by
      refine rSome_to l r (d + 1) (by omega) (fun x _ => V.bytes_pos x) fun x hx r => ?_
      have h1 := hl1 x hx
      exact ih x hx g (d + 1) r ((V.oks_iff l).1 hok.2 x hx) ((V.kins_iff l).1 hkin.2 x hx) (by omega) (hsub x hx) (by omega)
    have ht : rText ⟨uv t.size ++ (t.data.toList ++ (uv l.length ++ (l.flatMap V.bytes ++ r))), false, d + 1⟩ = (t.data.toList, ⟨uv l.length ++ (l.flatMap V.bytes ++ r), false, d + 1⟩) := by
      have := rText_to t.data.toList (uv l.length ++ (l.flatMap V.bytes ++ r)) (d + 1) (by rw [sz_len]; omega)
      rwa [sz_len] at this
    simp only [hb]
    rw [rInt_to n _ (d + 1) hok.1]
    simp only [ht, hs, toNat_kb hkin.1, bs_self]
    rfl
end Go.Proofs.YthgackidonocpaaGreat
namespace Go.Proofs.YthgackidonocpaaGreat
open Go.RowKit
theorem wrap_u64 (a : Int) : IntKind.u64.wrap a = a % 18446744073709551616 := by
  simp [IntKind.wrap, IntKind.bits, IntKind.signed]
theorem xor_ones {x : Nat} (h : x < 2 ^ 64) : x ^^^ (2 ^ 64 - 1) = 2 ^ 64 - 1 - x := by
  have h1 : (BitVec.ofNat 64 x ^^^ BitVec.allOnes 64).toNat = x ^^^ (2 ^ 64 - 1) := by
    rw [BitVec.toNat_xor, BitVec.toNat_ofNat, BitVec.toNat_allOnes, Nat.mod_eq_of_lt h]
  rw [← h1, BitVec.xor_allOnes, BitVec.toNat_not, BitVec.toNat_ofNat, Nat.mod_eq_of_lt h]
theorem zz_xor {n : Int} (h : inI n) : IntKind.u64.wrap ((((IntKind.u64.wrap (IntKind.u64.wrap n * 2 ^ (min (1 : Int).toNat IntKind.u64.bits))) % 2 ^ IntKind.u64.bits).toNat ^^^ ((IntKind.u64.wrap (n.fdiv (2 ^ (min (63 : Int).toNat IntKind.i64.bits)))) % 2 ^ IntKind.u64.bits).toNat : Nat) : Int) = ((zz n : Nat) : Int) := by
  have e1 : (2 : Int) ^ (min (1 : Int).toNat IntKind.u64.bits) = 2 := rfl
  have e2 : (2 : Int) ^ (min (63 : Int).toNat IntKind.i64.bits) = 9223372036854775808 := rfl
  have e3 : (2 : Int) ^ IntKind.u64.bits = 18446744073709551616 := rfl
  rw [e1, e2, e3, Int.fdiv_eq_ediv_of_nonneg _ (by omega)]
  simp only [wrap_u64]
  unfold inI at h
  unfold zz
  by_cases h0 : 0 ≤ n
  · rw [if_pos h0]
    have g1 : (n / 9223372036854775808 % 18446744073709551616 % 18446744073709551616).toNat = 0 := by omega
    rw [g1, Nat.xor_zero]
    omega
  · rw [if_neg h0]
    have g1 : (n / 9223372036854775808 % 18446744073709551616 % 18446744073709551616).toNat = 2 ^ 64 - 1 := by omega
    rw [g1, xor_ones (by omega)]
    omega
set_option maxRecDepth 100000 in
set_option maxHeartbeats 2000000 in
theorem nat_ag (v : Value) (l : List UInt8) (n : Nat) (hn : n < 9223372036854775808) (hl : l.length ≤ 1099511627776) :
    AG Tryz.prog 95 [.own 0 v, .c (.lit (.int .i64 (n : Int)))] [.row v 5 1 l.length (byts l)] (Grew 5 (l ++ uv n)) := by
  have hc := unsigned_ag v l n (by omega) hl
  refine ag_enter 1 tok Tryz.func95 Tryz.ntmps95 Tryz.results95 rfl (by kernel_rfl) rfl fun F => ?_
  repeat (first | refine gG ?_)
  refine lo_conv tok rfl rfl rfl rfl (r := (n : Int)) (by rw [wrap_u64]; omega) ?_
  repeat (first | refine gG ?_)
  refine zCallG [0] hc ?_
  rintro _ _ ⟨v', rfl, rfl⟩
  refine ⟨.own 0 v', _, re_own, rfl, rfl, ?_⟩
  repeat (first | refine gG ?_)
  refine zG ?_
  exact ⟨_, rfl, rfl⟩
set_option maxRecDepth 100000 in
set_option maxHeartbeats 2000000 in
theorem int_ag (v : Value) (l : List UInt8) (n : Int) (hn : inI n) (hl : l.length ≤ 1099511627776) :
    AG Tryz.prog 98 [.own 0 v, .c (.lit (.int .i64 n))] [.row v 5 1 l.length (byts l)] (Grew 5 (l ++ uv (zz n))) := by
  have hc := unsigned_ag v l (zz n) (zz_lt hn) hl
  refine ag_enter 1 tok Tryz.func98 Tryz.ntmps98 Tryz.results98 rfl (by kernel_rfl) rfl fun F => ?_
  repeat (first | refine gG ?_)
  refine lo_conv tok rfl rfl rfl rfl rfl ?_
  repeat (first | refine gG ?_)
  refine lo_shl rfl rfl (by omega) rfl ?_
  repeat (first | refine gG ?_)
  refine lo_shr rfl rfl (by omega) rfl ?_
  repeat (first | refine gG ?_)
  refine lo_conv tok rfl rfl rfl rfl rfl ?_
  repeat (first | refine gG ?_)
  refine lo_xor rfl rfl (zz_xor hn) ?_
  repeat (first | refine gG ?_)
  refine zCallG [0] hc ?_
  rintro _ _ ⟨v', rfl, rfl⟩
  refine ⟨.own 0 v', _, re_own, rfl, rfl, ?_⟩
  repeat (first | refine gG ?_)
  refine zG ?_
  exact ⟨_, rfl, rfl⟩
set_option maxRecDepth 100000 in
set_option maxHeartbeats 2000000 in
theorem text_ag (v : Value) (l : List UInt8) (s : ByteArray) (hl : l.length + s.size ≤ 1099511627776) :
    AG Tryz.prog 114 [.own 0 v, .c (.lit (.string s))] [.row v 5 1 l.length (byts l)] (Grew 5 (l ++ (uv s.size ++ s.data.toList))) := by
  have hc := nat_ag v l s.size (by omega) (by omega)
  have hul := uv_len64 (n := s.size) (by omega)
  refine ag_enter 1 tok Tryz.func114 Tryz.ntmps114 Tryz.results114 rfl (by kernel_rfl) rfl fun F => ?_
  repeat (first | refine gG ?_ | refine zN1 (fun hlen => ?_) | refine zN2 (fun hlen => ?_) | refine zAp (fun _ => ?_))
  refine zCallG [0] hc ?_
  rintro _ _ ⟨v', rfl, rfl⟩
  refine ⟨.own 0 v', _, re_own, rfl, rfl, ?_⟩
  repeat (first | refine gG ?_ | refine zN1 (fun hlen => ?_) | refine zN2 (fun hlen => ?_) | refine zAp (fun _ => ?_))
  refine zAps (s := s) (n := (l ++ uv s.size).length) (by simp only [List.length_append]; omega) (fun v'' => ?_)
  repeat (first | refine gG ?_ | refine zN1 (fun hlen => ?_) | refine zN2 (fun hlen => ?_) | refine zAp (fun _ => ?_))
  refine zG ?_
  exact ⟨_, rfl, by simp only [byts_app, List.length_append, sz_len, List.append_assoc, Nat.add_assoc]⟩
end Go.Proofs.YthgackidonocpaaGreat
namespace Go.Proofs.YthgackidonocpaaGreat
open Go.RowKit
theorem kb_T (k : Int) : bytT (kb k) = T.lit (.int .u8 (IntKind.u8.wrap k)) := by
  have h1 : IntKind.u8.wrap k = k % 256 := by simp [IntKind.wrap, IntKind.bits, IntKind.signed]
  have h2 : (k % 256).toNat < 256 := by omega
  unfold bytT kb
  rw [h1, UInt8.toNat_ofNat', Nat.mod_eq_of_lt (by simpa using h2)]
  congr 2
  omega
set_option maxRecDepth 100000 in
set_option maxHeartbeats 2000000 in
theorem listV_ag (f : FuncId) (enc : V → List UInt8) (l : List V) (hf : ∀ x ∈ l, ∀ (v : Value) (b : List UInt8), b.length + (enc x).length ≤ 1099511627776 → AG Tryz.prog f [.own 0 v, .c x.t] [.row v 5 1 b.length (byts b)] (Grew 5 (b ++ enc x)))
    (v : Value) (b : List UInt8) (hn : l.length < 9223372036854775808) (hb : b.length + (uv l.length ++ l.flatMap enc).length ≤ 1099511627776) :
    AG Tryz.prog 113 [.own 0 v, .c (V.row l), .fn (.func f) []] [.row v 5 1 b.length (byts b)] (Grew 5 (b ++ (uv l.length ++ l.flatMap enc))) := by
  have hc := nat_ag v b l.length hn (by omega)
  refine ag_enter 1 tok Tryz.func113 Tryz.ntmps113 Tryz.results113 rfl (by kernel_rfl) rfl fun F => ?_
  repeat (first | refine gG ?_ | refine zN1 (fun hlen => ?_) | refine zN2 (fun hlen => ?_) | refine zAl (fun _ => ?_))
  refine zCallG [0] hc ?_
  rintro _ _ ⟨v', rfl, rfl⟩
  refine ⟨.own 0 v', _, re_own, rfl, rfl, ?_⟩
  repeat (first | refine gG ?_ | refine zN1 (fun hlen => ?_) | refine zN2 (fun hlen => ?_) | refine zAl (fun _ => ?_))
  refine x_loop [0, 8, 15, 16, 17, 18, 19, 20, 21, 22, 23] (fun y : Nat × Value => [(15, .c (.lit (.int .i64 (y.1 : Nat)))), (0, .own 0 y.2)]) (fun y => [.row y.2 5 1 (b ++ (uv l.length ++ (l.take y.1).flatMap enc)).length (byts (b ++ (uv l.length ++ (l.take y.1).flatMap enc)))])
    (fun y => y.1 ≤ l.length) (fun y => l.length - y.1) (0, v') (Nat.zero_le _) ⟨rfl, rfl, trivial⟩ (by simp) ?_
  rintro ⟨k, u⟩ hk
  dsimp only at hk ⊢
  repeat (first | refine gG ?_ | refine zN1 (fun hlen => ?_) | refine zN2 (fun hlen => ?_) | refine zAl (fun _ => ?_))
  refine x_cond rfl (fun h => ?_) (fun h => ?_)
  · have hk' : k < l.length := by simpa using h
    obtain ⟨a, ha⟩ := nth hk'
    have hsn := flat_snoc' enc ha
    have hle : ((l.take (k + 1)).flatMap enc).length ≤ (l.flatMap enc).length := by
      have := congrArg (fun r => (List.flatMap enc r).length) (List.take_append_drop (k + 1) l)
      simp only [List.flatMap_append, List.length_append] at this
      omega
    have hca := hf a (List.mem_of_getElem? ha) u (b ++ (uv l.length ++ (l.take k).flatMap enc)) (by
      rw [hsn] at hle
      simp only [List.length_append] at hle hb ⊢
      omega)
    repeat (first | refine gG ?_ | refine zN1 (fun hlen => ?_) | refine zN2 (fun hlen => ?_) | refine zAl (fun _ => ?_))
    refine zIx (k) (hk') ?_
    repeat (first | refine gG ?_ | refine zN1 (fun hlen => ?_) | refine zN2 (fun hlen => ?_) | refine zAl (fun _ => ?_))
    refine zEl (V.at ha) (V.ts_len a) ?_
    obtain ⟨ka, na, ta, la⟩ := a
    repeat (first | refine gG ?_ | refine zN1 (fun hlen => ?_) | refine zN2 (fun hlen => ?_) | refine zAl (fun _ => ?_))
    refine zCallG [0] hca ?_
    rintro _ _ ⟨u', rfl, rfl⟩
    refine ⟨.own 0 u', _, re_own, rfl, rfl, ?_⟩
    repeat (first | refine gG ?_ | refine zN1 (fun hlen => ?_) | refine zN2 (fun hlen => ?_) | refine zAl (fun _ => ?_))
    exact ⟨(k + 1, u'), hk', by simp only; omega, x_wkd 1 ⟨rfl, rfl, trivial⟩ (by simp only [hsn, List.append_assoc]; rfl) (by repeat (first | exact ag_refl | refine ag_upd rfl ?_ | refine ag_at rfl rfl ?_))⟩
  · have hk' : k = l.length := by have : ¬ k < l.length := by simpa using h
                                  omega
    subst hk'
    repeat (first | refine gG ?_ | refine zN1 (fun hlen => ?_) | refine zN2 (fun hlen => ?_) | refine zAl (fun _ => ?_))
    refine zG ?_
    refine ⟨_, rfl, ?_⟩
    rw [List.take_length]
set_option maxRecDepth 100000 in
set_option maxHeartbeats 2000000 in
theorem appendValue_ag (x : V) : x.ok → ∀ (v : Value) (b : List UInt8), b.length + x.bytes.length ≤ 1099511627776 →
    AG Tryz.prog 115 [.own 0 v, .c x.t] [.row v 5 1 b.length (byts b)] (Grew 5 (b ++ x.bytes)) := by
  induction x using V.ind with
  | h k n t l ih =>
    intro hok v b hb
    simp only [V.ok] at hok
    have hok2 := (V.oks_iff l).1 hok.2
    simp only [V.bytes, V.bytesAll_eq, List.length_cons, List.length_append, sz_len] at hb
    have hi1 : ∀ v1, AG Tryz.prog 98 [.own 0 v1, .c (.lit (.int .i64 n))] [.row v1 5 1 (b.length + 1) (byts b ++ [.lit (.int .u8 (IntKind.u8.wrap k))])] (Grew 5 (b ++ (kb k :: uv (zz n)))) := by
      intro v1
      have h := int_ag v1 (b ++ [kb k]) n hok.1 (by simp only [List.length_append, List.length_cons, List.length_nil]; omega)
      rw [← kb_T]
      simpa [byts] using h
    have hi2 := fun v2 => text_ag v2 (b ++ (kb k :: uv (zz n))) t (by simp only [List.length_append, List.length_cons]; omega)
    have hln : l.length ≤ 1099511627776 := by
      have h1 : ∀ r : List V, r.length ≤ (r.flatMap V.bytes).length := by
        intro r
        induction r with
        | nil => simp
        | cons a r ih => obtain ⟨ka, na, ta, la⟩ := a; simp only [List.flatMap_cons, List.length_append, List.length_cons, V.bytes]; omega
      have := h1 l
      omega
    have hi3 := fun v3 => listV_ag 115 V.bytes l (fun x hx v b hb => ih x hx (hok2 x hx) v b hb) v3 (b ++ (kb k :: uv (zz n)) ++ (uv t.size ++ t.data.toList)) (by omega) (by simp only [List.length_append, List.length_cons, sz_len]; omega)
    refine ag_enter 1 tok Tryz.func115 Tryz.ntmps115 Tryz.results115 rfl (by kernel_rfl) rfl fun F => ?_
    repeat (first | refine gG ?_ | refine zBf ?_ | refine zAp (fun _ => ?_))
    refine ac_draw [1, 1, 1, 1, 1, 2, 0, 0, 2, 1] [0, 1, 2, 3, 4, 6, 7, 5, 8, 9] (by kernel_rfl) (by kernel_rfl) ?_
    refine gW ?_
    apply w_q; (focus exact rfl); (focus exact rfl); focus (intro _; (refine lo_conv tok rfl rfl rfl rfl rfl ?_); exact det_refl)
    refine gW ?_
    apply w_l; (focus exact rfl); (focus exact rfl); (first | (refine zkL ?_; first | refine zL1 ?_ | refine zL2 ?_ | refine zL3 ?_ | refine zLp ?_) | refine zM ?_ | (refine zkF ?_; first | refine zF1 ?_ | refine zF2 ?_ | refine zF3 ?_) | refine zA ?_ | (refine zkB ?_; first | refine zC5 ?_ | refine zC6 ?_ | refine zC1 ?_ | refine zC2 ?_ | refine zC3 ?_ | refine zC4 ?_ | refine zS5 ?_ | refine zS6 ?_ | refine zS1 ?_ | refine zS2 ?_ | refine zS3 ?_ | refine zS4 ?_ | refine zInc ?_ | refine zQ1 ?_ | refine zQ2 ?_ | refine zQ3 ?_ | refine zQ4 ?_ | refine zQ5 ?_ | refine zQ6 ?_) | (refine zkI ?_; first | refine zN1 (fun hlen => ?_) | refine zN2 (fun hlen => ?_) | refine zN3 ?_ | refine zN4 ?_ | refine zAp (fun _ => ?_)) | refine zS ?_ | refine zAl (fun _ => ?_) | refine zBx (fun _ => ?_) | refine zPt ?_ | refine zPf ?_ | refine zE ?_ | refine zEA ?_ | refine zNot ?_ | refine zBd ?_ | refine zBs ?_ | refine zFn ?_ | refine zK1 ?_ | refine zK2 ?_)
    apply w_l; (focus exact rfl); (focus exact rfl); (refine zCallG [0] (hi1 _) ?_; rintro _ _ ⟨v', rfl, rfl⟩; refine ⟨.own 0 v', _, re_own, rfl, rfl, ?_⟩)
    refine gW ?_
    refine w_nil ?_
    repeat (first | refine gG ?_ | refine zBx (fun _ => ?_) | refine zAp (fun _ => ?_))
    rename_i v2
    refine ac_draw [1, 1, 1, 2, 0, 0, 2, 1] [0, 1, 2, 4, 5, 3, 6, 7] (by kernel_rfl) (by kernel_rfl) ?_
    refine gW ?_
    apply w_l; (focus exact rfl); (focus exact rfl); (refine zCallG [0] (hi2 _) ?_; rintro _ _ ⟨v', rfl, rfl⟩; refine ⟨.own 0 v', _, re_own, rfl, rfl, ?_⟩)
    apply w_l; (focus exact rfl); (focus exact rfl); (refine zCallG [0] (hi3 _) ?_; rintro _ _ ⟨v', rfl, rfl⟩; refine ⟨.own 0 v', _, re_own, rfl, rfl, ?_⟩)
    refine gW ?_
    refine w_nil ?_
    repeat (first | refine gG ?_ | refine zBx (fun _ => ?_) | refine zAp (fun _ => ?_))
    refine zG ?_
    exact ⟨_, rfl, by simp only [V.bytes, V.bytesAll_eq, List.append_assoc, List.cons_append]⟩
end Go.Proofs.YthgackidonocpaaGreat
namespace Go.Proofs.YthgackidonocpaaGreat
open Go.RowKit
theorem all_snoc {α : Type} (q : α → Bool) {l : List α} {k : Nat} {a : α} (h : l[k]? = some a) : (l.take (k + 1)).all q = ((l.take k).all q && q a) := by
  obtain ⟨h1, rfl⟩ := List.getElem?_eq_some_iff.1 h
  rw [List.take_succ_eq_append_getElem h1, List.all_append]
  simp
theorem all_no {α : Type} (q : α → Bool) {l : List α} {k : Nat} {a : α} (h : l[k]? = some a) (hq : q a = false) : l.all q = false := by
  rw [List.all_eq_false]
  exact ⟨a, List.mem_of_getElem? h, by simp [hq]⟩
/-- not too deep, no text too long -/
def bigN (x : V) (d : Nat) : Bool := !decide ((40 : Int) < (d : Int)) && !decide ((4000 : Int) < (x.text.size : Int))
def V.fitB (v : V) (L d : Nat) : Bool := decide (v.size ≤ L) && v.every bigN d
theorem V.fitB_eq (k n : Int) (t : ByteArray) (l : List V) (L d : Nat) : (V.mk k n t l).fitB L d = (decide (V.sizes l + 1 ≤ L) && ((!decide ((40 : Int) < (d : Int)) && !decide ((4000 : Int) < (t.size : Int))) && l.all fun x => x.every bigN (d + 1))) := by
  simp only [V.fitB, V.size, V.every, V.everys_eq, bigN, V.text]
  rfl
theorem V.sizes_snoc {l : List V} {k : Nat} {a : V} (h : l[k]? = some a) : V.sizes (l.take (k + 1)) = V.sizes (l.take k) + a.size := by
  obtain ⟨h1, rfl⟩ := List.getElem?_eq_some_iff.1 h
  rw [List.take_succ_eq_append_getElem h1, V.sizes_app]
  simp [V.sizes]
set_option maxRecDepth 100000 in
set_option maxHeartbeats 2000000 in
theorem fits_ag (v : V) : ∀ (L d b : Nat), L ≤ 400 → d ≤ 41 →
    AG Tryz.prog 110 [.c v.t, .ptr 0 b 0, .c (.lit (.int .i64 (d : Int)))] [.box b 3 [.c (.lit (.int .i64 (L : Int)))]]
      (fun r hs => ∃ x : Int, hs = [.box b 3 [.c (.lit (.int .i64 x))]] ∧ r = .c (.lit (.bool (v.fitB L d))) ∧ (v.fitB L d = true → x = (L : Int) - (v.size : Int))) := by
  induction v using V.ind with
  | h k n t l ih =>
    intro L d b hL hd
    refine ag_enter 1 tok Tryz.func110 Tryz.ntmps110 Tryz.results110 rfl (by kernel_rfl) rfl fun F => ?_
    repeat (first | refine gG ?_ | refine zN1 (fun hlen => ?_) | refine zN2 (fun hlen => ?_) | refine zAl (fun _ => ?_) | refine zBf ?_)
    refine zSub ?_
    cases d1 : decide ((L : Int) - 1 < 0)
    · cases d2 : decide ((40 : Int) < (d : Int))
      · cases d3 : decide ((4000 : Int) < (t.size : Int))
        · have hd1 : ¬ (L : Int) - 1 < 0 := of_decide_eq_false d1
          have hd2 : ¬ (40 : Int) < (d : Int) := of_decide_eq_false d2
          have hL1 : ((L - 1 : Nat) : Int) = (L : Int) - 1 := by omega
          repeat (first | refine gG ?_ | refine zN1 (fun hlen => ?_) | refine zN2 (fun hlen => ?_) | refine zAl (fun _ => ?_) | refine zBx (fun _ => ?_))
          refine x_loop [6, 8, 31, 32, 33, 34, 35, 36, 37, 38, 39, 40, 41] (fun y : Nat × Nat => [(31, .c (.lit (.int .i64 (y.1 : Nat))))]) (fun y => [.box b 3 [.c (.lit (.int .i64 (y.2 : Int)))]])
            (fun y => y.1 ≤ l.length ∧ y.2 + 1 + V.sizes (l.take y.1) = L ∧ (l.take y.1).all (fun x => x.every bigN (d + 1)) = true) (fun y => l.length - y.1) (0, L - 1) ⟨Nat.zero_le _, by simp [V.sizes]; omega, by simp⟩ ⟨rfl, trivial⟩ (by simp only [hL1]) ?_
          rintro ⟨i, m⟩ ⟨hi, hm, ha⟩
          dsimp only at hi hm ha ⊢
          repeat (first | refine gG ?_ | refine zN1 (fun hlen => ?_) | refine zN2 (fun hlen => ?_) | refine zAl (fun _ => ?_) | refine zBx (fun _ => ?_))
          refine x_cond rfl (fun h => ?_) (fun h => ?_)
          · have hi' : i < l.length := by simpa using h
            obtain ⟨a, hla⟩ := nth hi'
            have hc := ih a (List.mem_of_getElem? hla) m (d + 1) b (by omega) (by omega)
            have hsn := V.sizes_snoc hla
            have hsa := all_snoc (fun x => x.every bigN (d + 1)) hla
            have hle := V.take_sizes l (i + 1)
            repeat (first | refine gG ?_ | refine zN1 (fun hlen => ?_) | refine zN2 (fun hlen => ?_) | refine zAl (fun _ => ?_) | refine zBx (fun _ => ?_))
            refine zIx (i) (hi') ?_
            repeat (first | refine gG ?_ | refine zN1 (fun hlen => ?_) | refine zN2 (fun hlen => ?_) | refine zAl (fun _ => ?_) | refine zBx (fun _ => ?_))
            refine zEl (V.at hla) (V.ts_len a) ?_
            obtain ⟨ka, na, ta, la⟩ := a
            repeat (first | refine gG ?_ | refine zN1 (fun hlen => ?_) | refine zN2 (fun hlen => ?_) | refine zAl (fun _ => ?_) | refine zBx (fun _ => ?_))
            refine zCallG [0] hc ?_
            rintro _ _ ⟨x, rfl, rfl, hx⟩
            refine ⟨_, _, re_refl, rfl, rfl, ?_⟩
            cases hf : (V.mk ka na ta la).fitB m (d + 1)
            · repeat (first | refine gG ?_ | refine zN1 (fun hlen => ?_) | refine zN2 (fun hlen => ?_) | refine zAl (fun _ => ?_) | refine zBx (fun _ => ?_))
              refine zG ?_
              refine ⟨_, rfl, ?_, ?_⟩
              all_goals
                have hno : (V.mk k n t l).fitB L d = false := by
                  simp only [V.fitB, Bool.and_eq_false_iff, decide_eq_false_iff_not] at hf ⊢
                  rcases hf with hf | hf
                  · left; simp only [V.size] at hsn hf ⊢; omega
                  · right; rw [V.every, V.everys_eq, all_no _ hla hf, Bool.and_false]
                rw [hno]
              · rfl
              · intro h; cases h
            · have hx' := hx hf
              simp only [V.fitB, Bool.and_eq_true, decide_eq_true_eq] at hf
              repeat (first | refine gG ?_ | refine zN1 (fun hlen => ?_) | refine zN2 (fun hlen => ?_) | refine zAl (fun _ => ?_) | refine zBx (fun _ => ?_))
              refine ⟨(i + 1, m - (V.mk ka na ta la).size), ⟨hi', by simp only; omega, by simp only; rw [hsa, ha, hf.2]; rfl⟩, by simp only; omega, x_wkd 1 ⟨rfl, trivial⟩ ?_ (by repeat (first | exact ag_refl | refine ag_upd rfl ?_ | refine ag_at rfl rfl ?_))⟩
              have : ((m - (V.mk ka na ta la).size : Nat) : Int) = x := by omega
              simp only [this]
              rfl
          · have hi' : i = l.length := by have : ¬ i < l.length := by simpa using h
                                          omega
            subst hi'
            rw [List.take_length] at hm ha
            have hyes : (V.mk k n t l).fitB L d = true := by
              rw [V.fitB_eq, d2, d3, ha, decide_eq_true (show V.sizes l + 1 ≤ L by omega)]
              rfl
            repeat (first | refine gG ?_ | refine zN1 (fun hlen => ?_) | refine zN2 (fun hlen => ?_) | refine zAl (fun _ => ?_) | refine zBx (fun _ => ?_))
            refine zG ?_
            refine ⟨_, rfl, by rw [hyes]; rfl, fun _ => by simp only [V.size]; omega⟩
        · have hno : (V.mk k n t l).fitB L d = false := by rw [V.fitB_eq, d3]; simp
          repeat (first | refine gG ?_ | refine zN1 (fun hlen => ?_) | refine zN2 (fun hlen => ?_) | refine zAl (fun _ => ?_) | refine zBx (fun _ => ?_))
          refine zG ?_
          refine ⟨_, rfl, by rw [hno]; rfl, fun h => by rw [hno] at h; cases h⟩
      · have hno : (V.mk k n t l).fitB L d = false := by rw [V.fitB_eq, d2]; simp
        repeat (first | refine gG ?_ | refine zN1 (fun hlen => ?_) | refine zN2 (fun hlen => ?_) | refine zAl (fun _ => ?_) | refine zBx (fun _ => ?_))
        refine zG ?_
        refine ⟨_, rfl, by rw [hno]; rfl, fun h => by rw [hno] at h; cases h⟩
    · have hno : (V.mk k n t l).fitB L d = false := by
        have hd1 : (L : Int) - 1 < 0 := of_decide_eq_true d1
        rw [V.fitB_eq, decide_eq_false (show ¬ V.sizes l + 1 ≤ L by omega)]
        rfl
      repeat (first | refine gG ?_ | refine zN1 (fun hlen => ?_) | refine zN2 (fun hlen => ?_) | refine zAl (fun _ => ?_) | refine zBx (fun _ => ?_))
      refine zG ?_
      refine ⟨_, rfl, by rw [hno]; rfl, fun h => by rw [hno] at h; cases h⟩
/-- a node uses only the fields of its kind -/
def formN : V → Bool
  | .mk k n t l =>
    if k = 1 then decide (n = 0) && decide (t = ⟨#[]⟩) && decide ((l.length : Int) = 0)
    else if k = 2 then decide (t = ⟨#[]⟩) && decide ((l.length : Int) = 0)
    else if k = 6 then decide (t = ⟨#[]⟩) && decide ((l.length : Int) = 0)
    else if k = 3 then (decide (n = 0) || decide (n = 1)) && decide (t = ⟨#[]⟩) && decide ((l.length : Int) = 0)
    else if k = 4 then decide (n = 0) && decide ((l.length : Int) = 0)
    else if k = 5 then decide (n = 0) && !decide (t = ⟨#[]⟩)
    else if k = 7 then true
    else if k = 8 then decide (n = 0) && decide (t = ⟨#[]⟩) && decide ((l.length : Int) ≤ 1)
    else false
def formP (x : V) (_ : Nat) : Bool := formN x
theorem V.form_eq (k n : Int) (t : ByteArray) (l : List V) (d : Nat) : (V.mk k n t l).every formP d = (formN (.mk k n t l) && l.all fun x => x.every formP (d + 1)) := by
  rw [V.every, V.everys_eq]; rfl
set_option maxRecDepth 100000 in
set_option maxHeartbeats 2000000 in
theorem formed_af (v : V) : ∀ d : Nat, AF Tryz.prog 111 [v.t] (· = .lit (.bool (v.every formP d))) := by
  induction v using V.ind with
  | h k n t l ih =>
    intro d
    refine af_enter tok Tryz.func111 Tryz.ntmps111 Tryz.results111 rfl (by kernel_rfl) rfl rfl fun F hX => ?_
    repeat (first | refine gG ?_ | refine zN1 (fun hlen => ?_) | refine zN2 (fun hlen => ?_) | refine zAl (fun _ => ?_) | refine zBf ?_)
    refine ac_draw [1, 1, 1, 1, 1, 1, 1, 1, 1, 1, 1, 1, 1] [0, 1, 2, 3, 4, 5, 6, 7, 8, 9, 10, 11, 12] (by kernel_rfl) (by kernel_rfl) ?_
    refine gW ?_
    refine w_nil ?_
    refine ac_seq ?_
    refine x_join [18, 19, 20, 21, 22, 23, 24, 25, 26, 27, 28, 29, 30, 31, 32, 33, 34, 35, 36, 37, 38, 39, 40, 41, 42, 43, 44, 45, 46, 47, 48, 2, 3, 4, 5] (fun y : {y : Bool × Bool × Bool // (y.1 && y.2.1 && y.2.2) = formN (.mk k n t l)} => [(3, .c (.lit (.bool y.1.1))), (4, .c (.lit (.bool y.1.2.1))), (5, .c (.lit (.bool y.1.2.2)))]) (fun _ => []) ?_ ?_
    rotate_left
    · cases d1 : decide (k = 1)
      · cases d2 : decide (k = 2)
        · cases d6 : decide (k = 6)
          · cases d3 : decide (k = 3)
            · cases d4 : decide (k = 4)
              · cases d5 : decide (k = 5)
                · cases d7 : decide (k = 7)
                  · cases d8 : decide (k = 8)
                    · have hno : formN (.mk k n t l) = false := by simp_all [formN]
                      repeat (first | refine gG ?_ | refine zN1 (fun hlen => ?_) | refine zN2 (fun hlen => ?_) | refine zAl (fun _ => ?_) | refine zBx (fun _ => ?_))
                      first | refine zR ?_ | refine zQ ?_
                      rw [V.form_eq, hno]; rfl
                    · obtain rfl := of_decide_eq_true d8
                      repeat (first | refine gG ?_ | refine zN1 (fun hlen => ?_) | refine zN2 (fun hlen => ?_) | refine zAl (fun _ => ?_) | refine zBx (fun _ => ?_))
                      exact ⟨⟨(decide (n = 0), decide (t = ⟨#[]⟩), decide ((l.length : Int) ≤ 1)), by simp [formN]⟩, x_wkd 0 ⟨rfl, rfl, rfl, trivial⟩ rfl (by repeat (first | exact ag_refl | refine ag_upd rfl ?_ | refine ag_at rfl rfl ?_))⟩
                  · obtain rfl := of_decide_eq_true d7
                    repeat (first | refine gG ?_ | refine zN1 (fun hlen => ?_) | refine zN2 (fun hlen => ?_) | refine zAl (fun _ => ?_) | refine zBx (fun _ => ?_))
                    exact ⟨⟨(true, true, true), by simp [formN]⟩, x_wkd 0 ⟨rfl, rfl, rfl, trivial⟩ rfl (by repeat (first | exact ag_refl | refine ag_upd rfl ?_ | refine ag_at rfl rfl ?_))⟩
                · obtain rfl := of_decide_eq_true d5
                  repeat (first | refine gG ?_ | refine zN1 (fun hlen => ?_) | refine zN2 (fun hlen => ?_) | refine zAl (fun _ => ?_) | refine zBx (fun _ => ?_))
                  exact ⟨⟨(decide (n = 0), !decide (t = ⟨#[]⟩), true), by simp [formN]⟩, x_wkd 0 ⟨rfl, rfl, rfl, trivial⟩ rfl (by repeat (first | exact ag_refl | refine ag_upd rfl ?_ | refine ag_at rfl rfl ?_))⟩
              · obtain rfl := of_decide_eq_true d4
                repeat (first | refine gG ?_ | refine zN1 (fun hlen => ?_) | refine zN2 (fun hlen => ?_) | refine zAl (fun _ => ?_) | refine zBx (fun _ => ?_))
                exact ⟨⟨(decide (n = 0), true, decide ((l.length : Int) = 0)), by simp [formN]⟩, x_wkd 0 ⟨rfl, rfl, rfl, trivial⟩ rfl (by repeat (first | exact ag_refl | refine ag_upd rfl ?_ | refine ag_at rfl rfl ?_))⟩
            · obtain rfl := of_decide_eq_true d3
              cases dz : decide (n = 0)
              · repeat (first | refine gG ?_ | refine zN1 (fun hlen => ?_) | refine zN2 (fun hlen => ?_) | refine zAl (fun _ => ?_) | refine zBx (fun _ => ?_))
                exact ⟨⟨(decide (n = 1), decide (t = ⟨#[]⟩), decide ((l.length : Int) = 0)), by simp [formN, dz]⟩, x_wkd 0 ⟨rfl, rfl, rfl, trivial⟩ rfl (by repeat (first | exact ag_refl | refine ag_upd rfl ?_ | refine ag_at rfl rfl ?_))⟩
              · repeat (first | refine gG ?_ | refine zN1 (fun hlen => ?_) | refine zN2 (fun hlen => ?_) | refine zAl (fun _ => ?_) | refine zBx (fun _ => ?_))
                exact ⟨⟨(true, decide (t = ⟨#[]⟩), decide ((l.length : Int) = 0)), by simp [formN, dz]⟩, x_wkd 0 ⟨rfl, rfl, rfl, trivial⟩ rfl (by repeat (first | exact ag_refl | refine ag_upd rfl ?_ | refine ag_at rfl rfl ?_))⟩
          · obtain rfl := of_decide_eq_true d6
            repeat (first | refine gG ?_ | refine zN1 (fun hlen => ?_) | refine zN2 (fun hlen => ?_) | refine zAl (fun _ => ?_) | refine zBx (fun _ => ?_))
            exact ⟨⟨(true, decide (t = ⟨#[]⟩), decide ((l.length : Int) = 0)), by simp [formN]⟩, x_wkd 0 ⟨rfl, rfl, rfl, trivial⟩ rfl (by repeat (first | exact ag_refl | refine ag_upd rfl ?_ | refine ag_at rfl rfl ?_))⟩
        · obtain rfl := of_decide_eq_true d2
          repeat (first | refine gG ?_ | refine zN1 (fun hlen => ?_) | refine zN2 (fun hlen => ?_) | refine zAl (fun _ => ?_) | refine zBx (fun _ => ?_))
          exact ⟨⟨(true, decide (t = ⟨#[]⟩), decide ((l.length : Int) = 0)), by simp [formN]⟩, x_wkd 0 ⟨rfl, rfl, rfl, trivial⟩ rfl (by repeat (first | exact ag_refl | refine ag_upd rfl ?_ | refine ag_at rfl rfl ?_))⟩
      · obtain rfl := of_decide_eq_true d1
        repeat (first | refine gG ?_ | refine zN1 (fun hlen => ?_) | refine zN2 (fun hlen => ?_) | refine zAl (fun _ => ?_) | refine zBx (fun _ => ?_))
        exact ⟨⟨(decide (n = 0), decide (t = ⟨#[]⟩), decide ((l.length : Int) = 0)), by simp [formN]⟩, x_wkd 0 ⟨rfl, rfl, rfl, trivial⟩ rfl (by repeat (first | exact ag_refl | refine ag_upd rfl ?_ | refine ag_at rfl rfl ?_))⟩
    rintro ⟨⟨y1, y2, y3⟩, hy⟩
    dsimp only at hy ⊢
    cases y1
    · repeat (first | refine gG ?_ | refine zN1 (fun hlen => ?_) | refine zN2 (fun hlen => ?_) | refine zAl (fun _ => ?_) | refine zBx (fun _ => ?_))
      first | refine zR ?_ | refine zQ ?_
      rw [V.form_eq, ← hy]; rfl
    cases y2
    · repeat (first | refine gG ?_ | refine zN1 (fun hlen => ?_) | refine zN2 (fun hlen => ?_) | refine zAl (fun _ => ?_) | refine zBx (fun _ => ?_))
      first | refine zR ?_ | refine zQ ?_
      rw [V.form_eq, ← hy]; rfl
    cases y3
    · repeat (first | refine gG ?_ | refine zN1 (fun hlen => ?_) | refine zN2 (fun hlen => ?_) | refine zAl (fun _ => ?_) | refine zBx (fun _ => ?_))
      first | refine zR ?_ | refine zQ ?_
      rw [V.form_eq, ← hy]; rfl
    repeat (first | refine gG ?_ | refine zN1 (fun hlen => ?_) | refine zN2 (fun hlen => ?_) | refine zAl (fun _ => ?_) | refine zBx (fun _ => ?_))
    refine x_loop [2, 7, 62, 63, 64, 65, 66, 67, 68, 69] (fun y : Nat => [(62, .c (.lit (.int .i64 (y : Nat))))]) (fun _ => []) (fun y => y ≤ l.length ∧ (l.take y).all (fun x => x.every formP (d + 1)) = true) (fun y => l.length - y) 0 ⟨Nat.zero_le _, by simp⟩ ⟨rfl, trivial⟩ rfl ?_
    rintro i ⟨hi, ha⟩
    repeat (first | refine gG ?_ | refine zN1 (fun hlen => ?_) | refine zN2 (fun hlen => ?_) | refine zAl (fun _ => ?_) | refine zBx (fun _ => ?_))
    refine x_cond rfl (fun h => ?_) (fun h => ?_)
    · have hi' : i < l.length := by simpa using h
      obtain ⟨a, hla⟩ := nth hi'
      have hc := ih a (List.mem_of_getElem? hla) (d + 1)
      have hsa := all_snoc (fun x => x.every formP (d + 1)) hla
      repeat (first | refine gG ?_ | refine zN1 (fun hlen => ?_) | refine zN2 (fun hlen => ?_) | refine zAl (fun _ => ?_) | refine zBx (fun _ => ?_))
      refine zIx (i) (hi') ?_
      repeat (first | refine gG ?_ | refine zN1 (fun hlen => ?_) | refine zN2 (fun hlen => ?_) | refine zAl (fun _ => ?_) | refine zBx (fun _ => ?_))
      refine zEl (V.at hla) (V.ts_len a) ?_
      obtain ⟨ka, na, ta, la⟩ := a
      repeat (first | refine gG ?_ | refine zN1 (fun hlen => ?_) | refine zN2 (fun hlen => ?_) | refine zAl (fun _ => ?_) | refine zBx (fun _ => ?_))
      refine zCall (hc) ?_
      rintro _ rfl
      cases hf : (V.mk ka na ta la).every formP (d + 1)
      · repeat (first | refine gG ?_ | refine zN1 (fun hlen => ?_) | refine zN2 (fun hlen => ?_) | refine zAl (fun _ => ?_) | refine zBx (fun _ => ?_))
        first | refine zR ?_ | refine zQ ?_
        rw [V.form_eq, all_no _ hla hf, Bool.and_false]; rfl
      · repeat (first | refine gG ?_ | refine zN1 (fun hlen => ?_) | refine zN2 (fun hlen => ?_) | refine zAl (fun _ => ?_) | refine zBx (fun _ => ?_))
        exact ⟨i + 1, ⟨hi', by rw [hsa, ha, hf]; rfl⟩, by omega, x_wkd 0 ⟨rfl, trivial⟩ rfl (by repeat (first | exact ag_refl | refine ag_upd rfl ?_ | refine ag_at rfl rfl ?_))⟩
    · have hi' : i = l.length := by have : ¬ i < l.length := by simpa using h
                                    omega
      subst hi'
      rw [List.take_length] at ha
      repeat (first | refine gG ?_ | refine zN1 (fun hlen => ?_) | refine zN2 (fun hlen => ?_) | refine zAl (fun _ => ?_) | refine zBx (fun _ => ?_))
      first | refine zR ?_ | refine zQ ?_
      rw [V.form_eq, ha, ← hy]; rfl
/-- what Check says -/
def V.check (v : V) : Int := if v.fitB 400 1 then (if v.every formP 1 then 0 else 3) else 2
set_option maxRecDepth 100000 in
set_option maxHeartbeats 2000000 in
theorem check_af (v : V) : AF Tryz.prog 91 [v.t] (· = .lit (.int .i64 v.check)) := by
  have hc := fun b => fits_ag v 400 1 b (by omega) (by omega)
  have hf := formed_af v 1
  obtain ⟨k, n, t, l⟩ := v
  refine af_enter tok Tryz.func91 Tryz.ntmps91 Tryz.results91 rfl (by kernel_rfl) rfl rfl fun F hX => ?_
  repeat (first | refine gG ?_ | refine zAl (fun _ => ?_) | refine zBf ?_)
  refine zCallG [0] (hc _) ?_
  rintro _ _ ⟨x, rfl, rfl, -⟩
  refine ⟨_, _, re_refl, rfl, rfl, ?_⟩
  cases h1 : (V.mk k n t l).fitB 400 1
  · repeat (first | refine gG ?_ | refine zAl (fun _ => ?_) | refine zBx (fun _ => ?_))
    first | refine zR ?_ | refine zQ ?_
    rw [V.check, h1]; rfl
  · repeat (first | refine gG ?_ | refine zAl (fun _ => ?_) | refine zBx (fun _ => ?_))
    refine zCall (hf) ?_
    rintro _ rfl
    cases h2 : (V.mk k n t l).every formP 1
    · repeat (first | refine gG ?_ | refine zAl (fun _ => ?_) | refine zBx (fun _ => ?_))
      first | refine zR ?_ | refine zQ ?_
      rw [V.check, h1, h2]; rfl
    · repeat (first | refine gG ?_ | refine zAl (fun _ => ?_) | refine zBx (fun _ => ?_))
      first | refine zR ?_ | refine zQ ?_
      rw [V.check, h1, h2]; rfl
end Go.Proofs.YthgackidonocpaaGreat
