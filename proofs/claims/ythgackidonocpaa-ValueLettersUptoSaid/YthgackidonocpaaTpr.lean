/-
  Plain: the reader of bytes; what it reads without a fault is what was written, and what was written it reads.
-/
import Derived.Test.YthgackidonocpaaTpb
namespace Go.Proofs.Ythgackidonocpaa
open Go.RowKit

structure RS where
  l : List UInt8
  bad : Bool
  dep : Nat
def RS.fail (s : RS) : RS := { s with bad := true }
def rByte (s : RS) : Nat × RS := match s.l with | [] => (0, s.fail) | a :: r => (a.toNat, { s with l := r })
def rUns : Nat → Nat → Nat → RS → Nat × RS
  | 0, _, _, s => (0, s.fail)
  | k + 1, i, u, s =>
    if (rByte s).2.bad || (decide (i = 9) && decide (1 < (rByte s).1)) || (decide (0 < i) && decide ((rByte s).1 = 0)) then (0, (rByte s).2.fail)
    else if (rByte s).1 < 128 then (u + (rByte s).1 * 128 ^ i, (rByte s).2) else rUns k (i + 1) (u + ((rByte s).1 - 128) * 128 ^ i) (rByte s).2
def rU (s : RS) : Nat × RS := rUns 10 0 0 s
def rNat (s : RS) : Nat × RS := if 9223372036854775807 < (rU s).1 then (0, (rU s).2.fail) else rU s
def dz (u : Nat) : Int := if u % 2 = 0 then ((u / 2 : Nat) : Int) else -((u / 2 : Nat) : Int) - 1
def rInt (s : RS) : Int × RS := (dz (rU s).1, (rU s).2)
def rCount (s : RS) : Nat × RS := if (rNat s).2.l.length < (rNat s).1 then (0, (rNat s).2.fail) else rNat s
def rText (s : RS) : List UInt8 × RS := ((rCount s).2.l.take (rCount s).1, { (rCount s).2 with l := (rCount s).2.l.drop (rCount s).1 })
def rLoop {α : Type} (g : RS → α × RS) : Nat → RS → List α × RS
  | 0, s => ([], s)
  | n + 1, s => if s.bad then ([], s) else ((g s).1 :: (rLoop g n (g s).2).1, (rLoop g n (g s).2).2)
def rSome {α : Type} (g : RS → α × RS) (s : RS) : List α × RS := rLoop g (rCount s).1 (rCount s).2
def V.zero : V := .mk 0 0 ⟨#[]⟩ []
def RS.up (s : RS) : RS := { s with dep := s.dep + 1 }
def RS.down (s : RS) : RS := { s with dep := s.dep - 1 }
def rVal : Nat → RS → V × RS
  | 0, s => (V.zero, s.up.fail)
  | f + 1, s =>
    if 40 < s.dep + 1 then (V.zero, s.up.fail)
    else
      let p1 := rByte s.up
      let p2 := rInt p1.2
      let p3 := rText p2.2
      let p4 := rSome (rVal f) p3.2
      (.mk p1.1 p2.1 (bs p3.1) p4.1, p4.2.down)

theorem rByte_ok {s s' : RS} {b : Nat} (h : rByte s = (b, s')) (hb : s'.bad = false) : ∃ a : UInt8, b = a.toNat ∧ s = ⟨a :: s'.l, false, s'.dep⟩ := by
  obtain ⟨l, bad, d⟩ := s
  cases l with
  | nil => simp only [rByte, RS.fail, Prod.mk.injEq] at h; rw [← h.2] at hb; cases hb
  | cons a r =>
    simp only [rByte, Prod.mk.injEq] at h
    obtain ⟨rfl, rfl⟩ := h
    dsimp only at hb
    exact ⟨a, rfl, by rw [hb]⟩
theorem pow7 {i : Nat} (h : i ≤ 8) : 2 ^ (64 - 7 * i) = 128 * 2 ^ (64 - 7 * (i + 1)) := by
  rw [show 64 - 7 * i = 7 + (64 - 7 * (i + 1)) by omega, Nat.pow_add]
theorem rUns_ok : ∀ (k i u : Nat) (s s' : RS) (x : Nat), i + k = 10 → rUns k i u s = (x, s') → s'.bad = false → ∃ y, s = ⟨uv y ++ s'.l, false, s'.dep⟩ ∧ x = u + y * 128 ^ i ∧ (0 < i → 0 < y) ∧ y < 2 ^ (64 - 7 * i)
  | 0, i, u, s, s', x, _, h, hb => by
    simp only [rUns, RS.fail, Prod.mk.injEq] at h
    rw [← h.2] at hb; cases hb
  | k + 1, i, u, s, s', x, hk, h, hb => by
    rw [rUns] at h
    split at h
    · simp only [RS.fail, Prod.mk.injEq] at h
      rw [← h.2] at hb; cases hb
    · rename_i hc
      simp only [Bool.or_eq_true, Bool.and_eq_true, decide_eq_true_eq, not_or, Bool.not_eq_true] at hc
      obtain ⟨⟨hc1, hc2⟩, hc3⟩ := hc
      obtain ⟨a, ha, hs⟩ := rByte_ok (s := s) (s' := (rByte s).2) (b := (rByte s).1) rfl hc1
      have ha2 : a.toNat < 256 := a.toNat_lt
      rw [ha] at h hc2 hc3
      split at h
      · rename_i hlt
        simp only [Prod.mk.injEq] at h
        obtain ⟨rfl, h2⟩ := h
        refine ⟨a.toNat, ?_, rfl, fun hi => ?_, ?_⟩
        · rw [uv_small hlt, hs, h2]
          simp
        · rcases Nat.eq_zero_or_pos a.toNat with h0 | h0
          · exact absurd ⟨hi, h0⟩ hc3
          · exact h0
        · by_cases h9 : i = 9
          · subst h9
            have : ¬ 1 < a.toNat := fun h => hc2 ⟨rfl, h⟩
            have e : 2 ^ (64 - 7 * 9) = 2 := rfl
            omega
          · rw [pow7 (by omega)]
            have := Nat.pos_of_ne_zero (Nat.ne_of_gt (Nat.two_pow_pos (64 - 7 * (i + 1))))
            calc a.toNat < 128 * 1 := by omega
              _ ≤ _ := Nat.mul_le_mul_left _ this
      · rename_i hge
        obtain ⟨y, h1, h2, h3, h4⟩ := rUns_ok k (i + 1) _ _ _ _ (by omega) h hb
        have hy := h3 (by omega)
        have hi8 : i ≤ 8 := by
          rcases Nat.lt_or_ge i 9 with h | h
          · omega
          · have : i = 9 := by omega
            subst this
            exact absurd ⟨rfl, by omega⟩ hc2
        refine ⟨a.toNat - 128 + 128 * y, ?_, ?_, fun _ => by omega, ?_⟩
        · have e1 : (a.toNat - 128 + 128 * y) % 128 + 128 = a.toNat := by omega
          have e2 : (a.toNat - 128 + 128 * y) / 128 = y := by omega
          rw [uv_big (by omega), e1, e2, hs, h1]
          simp
        · rw [h2, Nat.pow_succ, Nat.add_mul]
          have : y * (128 ^ i * 128) = 128 * y * 128 ^ i := by
            rw [Nat.mul_comm (128 ^ i) 128, ← Nat.mul_assoc, Nat.mul_comm y 128]
          omega
        · rw [pow7 hi8]
          omega
theorem rUns_to : ∀ (k i u y : Nat) (r : List UInt8) (d : Nat), i + k = 10 → i ≤ 9 → (0 < i → 0 < y) → y < 2 ^ (64 - 7 * i) → rUns k i u ⟨uv y ++ r, false, d⟩ = (u + y * 128 ^ i, ⟨r, false, d⟩)
  | 0, i, _, _, _, _, h, h9, _, _ => by omega
  | k + 1, i, u, y, r, d, hk, h9, hp, hlt => by
    rw [rUns]
    by_cases hy : y < 128
    · have hb : rByte ⟨uv y ++ r, false, d⟩ = (y, ⟨r, false, d⟩) := by
        rw [uv_small hy]
        simp only [rByte, List.cons_append, List.nil_append]
        rw [UInt8.toNat_ofNat', Nat.mod_eq_of_lt (by omega)]
      rw [hb]
      have hc : ¬ ((false || (decide (i = 9) && decide (1 < y)) || (decide (0 < i) && decide (y = 0))) = true) := by
        simp only [Bool.or_eq_true, Bool.and_eq_true, decide_eq_true_eq, not_or]
        refine ⟨⟨by simp, fun ⟨h1, h2⟩ => ?_⟩, fun ⟨h1, h2⟩ => ?_⟩
        · subst h1
          have e : 2 ^ (64 - 7 * 9) = 2 := rfl
          omega
        · have := hp h1; omega
      rw [if_neg hc, if_pos hy]
    · have hi8 : i ≤ 8 := by
        rcases Nat.lt_or_ge i 9 with h | h
        · omega
        · have : i = 9 := by omega
          subst this
          have e : 2 ^ (64 - 7 * 9) = 2 := rfl
          omega
      have hb : rByte ⟨uv y ++ r, false, d⟩ = (y % 128 + 128, ⟨uv (y / 128) ++ r, false, d⟩) := by
        rw [uv_big hy]
        simp only [rByte, List.cons_append]
        rw [UInt8.toNat_ofNat', Nat.mod_eq_of_lt (by omega)]
      rw [hb]
      have hc : ¬ ((false || (decide (i = 9) && decide (1 < y % 128 + 128)) || (decide (0 < i) && decide (y % 128 + 128 = 0))) = true) := by
        simp only [Bool.or_eq_true, Bool.and_eq_true, decide_eq_true_eq, not_or]
        exact ⟨⟨by simp, fun ⟨h1, _⟩ => by omega⟩, fun ⟨_, h2⟩ => by omega⟩
      rw [if_neg hc, if_neg (by omega)]
      rw [pow7 hi8] at hlt
      rw [rUns_to k (i + 1) _ (y / 128) r d (by omega) (by omega) (fun _ => by omega) (by omega)]
      congr 1
      rw [Nat.pow_succ, show y % 128 + 128 - 128 = y % 128 by omega]
      have : y / 128 * (128 ^ i * 128) = 128 * (y / 128) * 128 ^ i := by
        rw [Nat.mul_comm (128 ^ i) 128, ← Nat.mul_assoc, Nat.mul_comm (y / 128) 128]
      rw [this, Nat.add_assoc, ← Nat.add_mul]
      congr 2
      omega
theorem rU_ok {s s' : RS} {x : Nat} (h : rU s = (x, s')) (hb : s'.bad = false) : s = ⟨uv x ++ s'.l, false, s'.dep⟩ ∧ x < 2 ^ 64 := by
  obtain ⟨y, h1, h2, _, h4⟩ := rUns_ok 10 0 0 s s' x rfl h hb
  have : x = y := by simpa using h2
  subst this
  exact ⟨h1, h4⟩
theorem rU_to (x : Nat) (r : List UInt8) (d : Nat) (h : x < 2 ^ 64) : rU ⟨uv x ++ r, false, d⟩ = (x, ⟨r, false, d⟩) := by
  rw [rU, rUns_to 10 0 0 x r d rfl (by omega) (by omega) h]; simp
theorem rNat_ok {s s' : RS} {x : Nat} (h : rNat s = (x, s')) (hb : s'.bad = false) : s = ⟨uv x ++ s'.l, false, s'.dep⟩ ∧ x ≤ 9223372036854775807 := by
  unfold rNat at h
  split at h
  · simp only [RS.fail, Prod.mk.injEq] at h
    rw [← h.2] at hb; cases hb
  · rename_i hn
    rw [h] at hn
    exact ⟨(rU_ok h hb).1, by simpa using hn⟩
theorem rNat_to (x : Nat) (r : List UInt8) (d : Nat) (h : x ≤ 9223372036854775807) : rNat ⟨uv x ++ r, false, d⟩ = (x, ⟨r, false, d⟩) := by
  rw [rNat, rU_to x r d (by omega), if_neg (by simp only; omega)]
theorem dz_zz {n : Int} : dz (zz n) = n := by
  unfold dz zz
  split <;> split <;> omega
theorem zz_dz (u : Nat) : zz (dz u) = u := by
  unfold dz zz
  split <;> split <;> omega
theorem dz_in {u : Nat} (h : u < 2 ^ 64) : inI (dz u) := by
  unfold inI dz
  split <;> omega
theorem rInt_ok {s s' : RS} {x : Int} (h : rInt s = (x, s')) (hb : s'.bad = false) : s = ⟨uv (zz x) ++ s'.l, false, s'.dep⟩ ∧ inI x := by
  simp only [rInt, Prod.mk.injEq] at h
  obtain ⟨rfl, rfl⟩ := h
  obtain ⟨h1, h2⟩ := rU_ok (s := s) (s' := (rU s).2) (x := (rU s).1) rfl hb
  rw [zz_dz]
  exact ⟨h1, dz_in h2⟩
theorem rInt_to (x : Int) (r : List UInt8) (d : Nat) (h : inI x) : rInt ⟨uv (zz x) ++ r, false, d⟩ = (x, ⟨r, false, d⟩) := by
  rw [rInt, rU_to (zz x) r d (zz_lt h), dz_zz]
theorem rCount_ok {s s' : RS} {x : Nat} (h : rCount s = (x, s')) (hb : s'.bad = false) : s = ⟨uv x ++ s'.l, false, s'.dep⟩ ∧ x ≤ s'.l.length ∧ x ≤ 9223372036854775807 := by
  unfold rCount at h
  split at h
  · simp only [RS.fail, Prod.mk.injEq] at h
    rw [← h.2] at hb; cases hb
  · rename_i hn
    rw [h] at hn
    obtain ⟨h1, h2⟩ := rNat_ok h hb
    exact ⟨h1, by simpa using hn, h2⟩
theorem rCount_to (x : Nat) (r : List UInt8) (d : Nat) (h : x ≤ 9223372036854775807) (hr : x ≤ r.length) : rCount ⟨uv x ++ r, false, d⟩ = (x, ⟨r, false, d⟩) := by
  rw [rCount, rNat_to x r d h, if_neg (by simp only; omega)]
theorem rCount_le (s : RS) : (rCount s).1 ≤ (rCount s).2.l.length := by
  unfold rCount
  split
  · exact Nat.zero_le _
  · omega
theorem rText_ok {s s' : RS} {x : List UInt8} (h : rText s = (x, s')) (hb : s'.bad = false) : s = ⟨uv x.length ++ (x ++ s'.l), false, s'.dep⟩ ∧ x.length ≤ 9223372036854775807 := by
  simp only [rText, Prod.mk.injEq] at h
  obtain ⟨rfl, rfl⟩ := h
  obtain ⟨h1, h2, h3⟩ := rCount_ok (s := s) (s' := (rCount s).2) (x := (rCount s).1) rfl hb
  have hl : ((rCount s).2.l.take (rCount s).1).length = (rCount s).1 := by simp; omega
  rw [hl, List.take_append_drop]
  exact ⟨h1, h3⟩
theorem rText_to (x r : List UInt8) (d : Nat) (h : x.length ≤ 9223372036854775807) : rText ⟨uv x.length ++ (x ++ r), false, d⟩ = (x, ⟨r, false, d⟩) := by
  rw [rText, rCount_to x.length (x ++ r) d h (by simp)]
  simp

theorem rByte_dep (s : RS) : (rByte s).2.dep = s.dep := by
  obtain ⟨l, b, d⟩ := s
  cases l <;> rfl
theorem rByte_bad {s : RS} (h : s.bad = true) : (rByte s).2.bad = true := by
  obtain ⟨l, b, d⟩ := s
  cases l
  · rfl
  · exact h
theorem rUns_dep : ∀ (k i u : Nat) (s : RS), (rUns k i u s).2.dep = s.dep
  | 0, _, _, s => rfl
  | k + 1, i, u, s => by
    rw [rUns]
    split
    · exact rByte_dep s
    · split
      · exact rByte_dep s
      · rw [rUns_dep]; exact rByte_dep s
theorem rU_dep (s : RS) : (rU s).2.dep = s.dep := rUns_dep _ _ _ s
theorem rNat_dep (s : RS) : (rNat s).2.dep = s.dep := by
  unfold rNat
  split
  · exact rU_dep s
  · exact rU_dep s
theorem rCount_dep (s : RS) : (rCount s).2.dep = s.dep := by
  unfold rCount
  split
  · exact rNat_dep s
  · exact rNat_dep s
theorem rText_dep (s : RS) : (rText s).2.dep = s.dep := rCount_dep s

/-- what g reads without a fault is what enc writes -/
def Reads {α : Type} (g : RS → α × RS) (enc : α → List UInt8) (ok : α → Prop) : Prop :=
  ∀ s x s', g s = (x, s') → s'.bad = false → s = ⟨enc x ++ s'.l, false, s'.dep⟩ ∧ ok x
theorem rLoop_ok {α : Type} {g : RS → α × RS} {enc : α → List UInt8} {ok : α → Prop} (hg : Reads g enc ok) : ∀ (n : Nat) (s s' : RS) (l : List α), rLoop g n s = (l, s') → s'.bad = false → s = ⟨l.flatMap enc ++ s'.l, false, s'.dep⟩ ∧ (∀ x ∈ l, ok x) ∧ l.length = n
  | 0, s, s', l, h, hb => by
    simp only [rLoop, Prod.mk.injEq] at h
    obtain ⟨rfl, rfl⟩ := h
    obtain ⟨sl, sb, sd⟩ := s
    dsimp only at hb
    subst hb
    exact ⟨rfl, by simp, rfl⟩
  | n + 1, s, s', l, h, hb => by
    rw [rLoop] at h
    split at h
    · rename_i hbad
      simp only [Prod.mk.injEq] at h
      rw [h.2, hb] at hbad; cases hbad
    · generalize hgs : g s = p at h
      obtain ⟨x, s1⟩ := p
      dsimp only at h
      generalize hrl : rLoop g n s1 = q at h
      obtain ⟨r, s2⟩ := q
      simp only [Prod.mk.injEq] at h
      obtain ⟨rfl, rfl⟩ := h
      obtain ⟨h1, h2, h3⟩ := rLoop_ok hg n s1 _ _ hrl hb
      have hb2 : s1.bad = false := by rw [h1]
      obtain ⟨h4, h5⟩ := hg s x s1 hgs hb2
      refine ⟨?_, ?_, by simp [h3]⟩
      · rw [h4, h1]
        simp
      · intro y hy
        rcases List.mem_cons.1 hy with rfl | hy
        · exact h5
        · exact h2 y hy
theorem rLoop_to {α : Type} {g : RS → α × RS} {enc : α → List UInt8} : ∀ (l : List α) (r : List UInt8) (d : Nat), (∀ x ∈ l, ∀ r, g ⟨enc x ++ r, false, d⟩ = (x, ⟨r, false, d⟩)) → rLoop g l.length ⟨l.flatMap enc ++ r, false, d⟩ = (l, ⟨r, false, d⟩)
  | [], r, d, _ => rfl
  | a :: l, r, d, h => by
    rw [List.length_cons, rLoop, if_neg (by simp)]
    rw [List.flatMap_cons, List.append_assoc, h a (by simp)]
    dsimp only
    rw [rLoop_to l r d fun x hx => h x (List.mem_cons_of_mem _ hx)]
theorem rSome_ok {α : Type} {g : RS → α × RS} {enc : α → List UInt8} {ok : α → Prop} (hg : Reads g enc ok) {s s' : RS} {l : List α} (h : rSome g s = (l, s')) (hb : s'.bad = false) : s = ⟨uv l.length ++ (l.flatMap enc ++ s'.l), false, s'.dep⟩ ∧ (∀ x ∈ l, ok x) ∧ l.length ≤ 9223372036854775807 := by
  unfold rSome at h
  obtain ⟨h1, h2, h3⟩ := rLoop_ok hg _ _ _ _ h hb
  have hb2 : (rCount s).2.bad = false := by rw [h1]
  obtain ⟨h4, h5, h6⟩ := rCount_ok (s := s) (s' := (rCount s).2) (x := (rCount s).1) rfl hb2
  refine ⟨?_, h2, by omega⟩
  rw [h4, h3, h1]
theorem rSome_to {α : Type} {g : RS → α × RS} {enc : α → List UInt8} (l : List α) (r : List UInt8) (d : Nat) (hl : l.length ≤ 9223372036854775807) (h1 : ∀ x ∈ l, 1 ≤ (enc x).length) (h : ∀ x ∈ l, ∀ r, g ⟨enc x ++ r, false, d⟩ = (x, ⟨r, false, d⟩)) : rSome g ⟨uv l.length ++ (l.flatMap enc ++ r), false, d⟩ = (l, ⟨r, false, d⟩) := by
  have hlen : ∀ l : List α, (∀ x ∈ l, 1 ≤ (enc x).length) → l.length ≤ (l.flatMap enc).length := by
    intro l
    induction l with
    | nil => simp
    | cons a l ih =>
      intro h
      have h2 := ih fun x hx => h x (List.mem_cons_of_mem _ hx)
      have h3 := h a (by simp)
      simp only [List.flatMap_cons, List.length_append, List.length_cons]
      omega
  have := hlen l h1
  rw [rSome, rCount_to l.length _ d hl (by simp only [List.length_append]; omega)]
  exact rLoop_to l r d h

mutual
/-- kinds are bytes -/
def V.kin : V → Prop
  | .mk k _ _ l => (0 ≤ k ∧ k < 256) ∧ V.kins l
def V.kins : List V → Prop
  | [] => True
  | v :: r => v.kin ∧ V.kins r
end
theorem V.kins_iff : ∀ l : List V, V.kins l ↔ ∀ v ∈ l, v.kin
  | [] => by simp [V.kins]
  | v :: l => by simp [V.kins, V.kins_iff l]
theorem kb_nat (a : UInt8) : kb (a.toNat : Int) = a := by
  unfold kb
  have h := a.toNat_lt
  have : ((a.toNat : Int) % 256).toNat = a.toNat := by omega
  rw [this]
  simp
theorem toNat_kb {k : Int} (h : 0 ≤ k ∧ k < 256) : (((kb k).toNat : Nat) : Int) = k := by
  unfold kb
  rw [UInt8.toNat_ofNat', Nat.mod_eq_of_lt (by omega)]
  omega
theorem rVal_ok : ∀ f, Reads (rVal f) V.bytes fun v => v.ok ∧ v.kin
  | 0, s, v, s', h, hb => by
    simp only [rVal, RS.fail, Prod.mk.injEq] at h
    rw [← h.2] at hb; cases hb
  | f + 1, s, v, s', h, hb => by
    rw [rVal] at h
    split at h
    · simp only [RS.fail, Prod.mk.injEq] at h
      rw [← h.2] at hb; cases hb
    · dsimp only at h
      generalize e1 : rByte s.up = p1 at h
      obtain ⟨x1, s1⟩ := p1
      dsimp only at h
      generalize e2 : rInt s1 = p2 at h
      obtain ⟨x2, s2⟩ := p2
      dsimp only at h
      generalize e3 : rText s2 = p3 at h
      obtain ⟨x3, s3⟩ := p3
      dsimp only at h
      generalize e4 : rSome (rVal f) s3 = p4 at h
      obtain ⟨x4, s4⟩ := p4
      simp only [Prod.mk.injEq] at h
      obtain ⟨rfl, rfl⟩ := h
      simp only [RS.down] at hb
      obtain ⟨g1, g2, g3⟩ := rSome_ok (rVal_ok f) e4 hb
      obtain ⟨g4, g5⟩ := rText_ok e3 (by rw [g1])
      obtain ⟨g6, g7⟩ := rInt_ok e2 (by rw [g4])
      obtain ⟨a, g8, g9⟩ := rByte_ok e1 (by rw [g6])
      refine ⟨?_, ⟨?_, ?_⟩⟩
      · have e : s = s.up.down := by obtain ⟨l, b, d⟩ := s; rfl
        rw [e, g9, g6, g4, g1]
        simp only [RS.down, V.bytes, V.bytesAll_eq, g8, kb_nat, List.append_assoc, List.cons_append, bs_size']
        simp [bs]
      · simp only [V.ok]
        exact ⟨g7, (V.oks_iff _).2 fun x hx => (g2 x hx).1⟩
      · simp only [V.kin, g8]
        exact ⟨⟨by omega, by have := a.toNat_lt; omega⟩, (V.kins_iff _).2 fun x hx => (g2 x hx).2⟩
/-- how deep it is at most -/
def V.low (v : V) (d : Nat) : Bool := v.every (fun _ e => decide (e ≤ 40)) d
theorem V.bytes_pos (v : V) : 1 ≤ v.bytes.length := by
  obtain ⟨k, n, t, l⟩ := v
  simp [V.bytes]
theorem rVal_to (v : V) : ∀ (f d : Nat) (r : List UInt8), v.ok → v.kin → v.bytes.length ≤ 9223372036854775807 → v.low (d + 1) = true → 40 ≤ d + f → rVal f ⟨v.bytes ++ r, false, d⟩ = (v, ⟨r, false, d⟩) := by
  induction v using V.ind with
  | h k n t l ih =>
    intro f d r hok hkin hlen hlow hf
    simp only [V.low, V.every, V.everys_eq, Bool.and_eq_true, decide_eq_true_eq, List.all_eq_true] at hlow
    obtain ⟨hd, hsub⟩ := hlow
    simp only [V.ok] at hok
    simp only [V.kin] at hkin
    obtain ⟨g, rfl⟩ : ∃ g, f = g + 1 := ⟨f - 1, by omega⟩
    rw [rVal, if_neg (by simp only; omega)]
    have hb : rByte (RS.up ⟨(V.mk k n t l).bytes ++ r, false, d⟩) = ((kb k).toNat, ⟨uv (zz n) ++ (uv t.size ++ (t.data.toList ++ (uv l.length ++ (l.flatMap V.bytes ++ r)))), false, d + 1⟩) := by
      simp only [V.bytes, V.bytesAll_eq, RS.up, rByte, List.cons_append, List.append_assoc]
    simp only [V.bytes, V.bytesAll_eq, List.length_cons, List.length_append, sz_len] at hlen
    have hl1 : ∀ x ∈ l, x.bytes.length ≤ (l.flatMap V.bytes).length := by
      intro x hx
      obtain ⟨i, hi⟩ := List.mem_iff_getElem?.1 hx
      have h1 := flat_snoc' V.bytes hi
      have h2 := congrArg (fun r => (List.flatMap V.bytes r).length) (List.take_append_drop (i + 1) l)
      simp only [List.flatMap_append, List.length_append] at h2
      rw [h1, List.length_append] at h2
      omega
    have hll : l.length ≤ (l.flatMap V.bytes).length := by
      clear ih hl1 hsub hok hkin hb hlen
      induction l with
      | nil => simp
      | cons a l ih => have := V.bytes_pos a; simp only [List.flatMap_cons, List.length_append, List.length_cons]; omega
    have hs : rSome (rVal g) ⟨uv l.length ++ (l.flatMap V.bytes ++ r), false, d + 1⟩ = (l, ⟨r, false, d + 1⟩) := by
      refine rSome_to l r (d + 1) (by omega) (fun x _ => V.bytes_pos x) fun x hx r => ?_
      have h1 := hl1 x hx
      exact ih x hx g (d + 1) r ((V.oks_iff l).1 hok.2 x hx) ((V.kins_iff l).1 hkin.2 x hx) (by omega) (hsub x hx) (by omega)
    have ht : rText ⟨uv t.size ++ (t.data.toList ++ (uv l.length ++ (l.flatMap V.bytes ++ r))), false, d + 1⟩ = (t.data.toList, ⟨uv l.length ++ (l.flatMap V.bytes ++ r), false, d + 1⟩) := by
      have := rText_to t.data.toList (uv l.length ++ (l.flatMap V.bytes ++ r)) (d + 1) (by rw [sz_len]; omega)
      rwa [sz_len] at this
    simp only [hb]
    rw [rInt_to n _ (d + 1) hok.1]
    simp only [ht, hs, toNat_kb hkin.1, bs_self]
    rfl

end Go.Proofs.Ythgackidonocpaa
