/-
  Plain: the document's taker of bytes; what was written it takes; what it takes is small.
-/
import Derived.Test.YthgackidonocpaaTpr
import Derived.Test.YthgackidonocpaaTck
namespace Go.Proofs.Ythgackidonocpaa
open Go.RowKit

structure TS where
  l : List UInt8
  ok : Bool
def TS.fail (s : TS) : TS := { s with ok := false }
def tOne (s : TS) : Nat × TS := match s.l with | [] => (0, s.fail) | a :: r => (a.toNat, { s with l := r })
def tNatL : Nat → Nat → Nat → TS → Nat × TS
  | 0, _, _, s => (0, s.fail)
  | k + 1, i, n, s => if (tOne s).1 < 128 then (n + (tOne s).1 % 128 * 128 ^ i, (tOne s).2) else tNatL k (i + 1) (n + (tOne s).1 % 128 * 128 ^ i) (tOne s).2
def tNat (s : TS) : Nat × TS := tNatL 9 0 0 s
def tNumL : Nat → Nat → Nat → TS → Int × TS
  | 0, _, _, s => (0, s.fail)
  | k + 1, i, n, s => if (tOne s).1 < 128 then (dz ((n + (tOne s).1 % 128 * 128 ^ i) % 2 ^ 64), (tOne s).2) else tNumL k (i + 1) ((n + (tOne s).1 % 128 * 128 ^ i) % 2 ^ 64) (tOne s).2
def tNum (s : TS) : Int × TS := tNumL 10 0 0 s
def tText (s : TS) : List UInt8 × TS := if (tNat s).2.l.length < (tNat s).1 ∨ 4000 < (tNat s).1 then ([], (tNat s).2.fail) else ((tNat s).2.l.take (tNat s).1, { (tNat s).2 with l := (tNat s).2.l.drop (tNat s).1 })
abbrev TG (α : Type) := TS → Int → α × TS × Int
def tLoop {α : Type} (g : TG α) : Nat → TS → Int → List α × TS × Int
  | 0, s, m => ([], s, m)
  | n + 1, s, m => if s.ok then ((g s m).1 :: (tLoop g n (g s m).2.1 (g s m).2.2).1, (tLoop g n (g s m).2.1 (g s m).2.2).2) else ([], s, m)
def tVal : Nat → TG V
  | 0, s, m => (V.zero, s.fail, m - 1)
  | d + 1, s, m =>
    if m - 1 < 0 then (V.zero, s.fail, m - 1)
    else if s.ok = false then (V.zero, s, m - 1)
    else
      let p1 := tOne s
      let p2 := tNum p1.2
      let p3 := tText p2.2
      let p4 := tNat p3.2
      let p5 := tLoop (tVal d) p4.1 p4.2 (m - 1)
      (.mk p1.1 p2.1 (bs p3.1) p5.1, p5.2)

theorem tOne_lt (s : TS) : (tOne s).1 < 256 := by
  obtain ⟨l, b⟩ := s
  cases l with
  | nil => simp [tOne]
  | cons a r => exact a.toNat_lt
theorem tOne_small {y : Nat} (hy : y < 128) (r : List UInt8) : tOne ⟨uv y ++ r, true⟩ = (y, ⟨r, true⟩) := by
  rw [uv_small hy]
  simp only [tOne, List.cons_append, List.nil_append]
  rw [UInt8.toNat_ofNat', Nat.mod_eq_of_lt (by omega)]
theorem tOne_big {y : Nat} (hy : ¬ y < 128) (r : List UInt8) : tOne ⟨uv y ++ r, true⟩ = (y % 128 + 128, ⟨uv (y / 128) ++ r, true⟩) := by
  rw [uv_big hy]
  simp only [tOne, List.cons_append]
  rw [UInt8.toNat_ofNat', Nat.mod_eq_of_lt (by omega)]
theorem digits (n y i : Nat) : n + y % 128 * 128 ^ i + y / 128 * 128 ^ (i + 1) = n + y * 128 ^ i := by
  rw [Nat.pow_succ]
  have : y / 128 * (128 ^ i * 128) = 128 * (y / 128) * 128 ^ i := by
    rw [Nat.mul_comm (128 ^ i) 128, ← Nat.mul_assoc, Nat.mul_comm (y / 128) 128]
  rw [this, Nat.add_assoc, ← Nat.add_mul]
  congr 2
  omega
theorem tNatL_to : ∀ (k i n y : Nat) (r : List UInt8), i + k = 9 → i ≤ 8 → y < 2 ^ (63 - 7 * i) → tNatL k i n ⟨uv y ++ r, true⟩ = (n + y * 128 ^ i, ⟨r, true⟩)
  | 0, i, _, _, _, h, h8, _ => by omega
  | k + 1, i, n, y, r, hk, h8, hy => by
    rw [tNatL]
    by_cases h : y < 128
    · rw [tOne_small h]
      dsimp only
      rw [if_pos h, Nat.mod_eq_of_lt h]
    · have hi7 : i ≤ 7 := by
        rcases Nat.lt_or_ge i 8 with h' | h'
        · omega
        · have : i = 8 := by omega
          subst this
          have e : 2 ^ (63 - 7 * 8) = 128 := rfl
          omega
      have hp : 2 ^ (63 - 7 * i) = 128 * 2 ^ (63 - 7 * (i + 1)) := by rw [show 63 - 7 * i = 7 + (63 - 7 * (i + 1)) by omega, Nat.pow_add]
      rw [hp] at hy
      rw [tOne_big h]
      dsimp only
      rw [if_neg (by omega), tNatL_to k (i + 1) _ (y / 128) r (by omega) (by omega) (by omega)]
      have e : (y % 128 + 128) % 128 = y % 128 := by omega
      rw [e, digits]
theorem tNat_to (x : Nat) (r : List UInt8) (h : x ≤ 9223372036854775807) : tNat ⟨uv x ++ r, true⟩ = (x, ⟨r, true⟩) := by
  rw [tNat, tNatL_to 9 0 0 x r rfl (by omega) (by have e : 2 ^ (63 - 7 * 0) = 9223372036854775808 := rfl
                                                  omega)]
  simp
theorem tNumL_to : ∀ (k i n y : Nat) (r : List UInt8), i + k = 10 → i ≤ 9 → n < 128 ^ i → y < 2 ^ (64 - 7 * i) → tNumL k i n ⟨uv y ++ r, true⟩ = (dz (n + y * 128 ^ i), ⟨r, true⟩)
  | 0, i, _, _, _, h, h8, _, _ => by omega
  | k + 1, i, n, y, r, hk, h9, hn, hy => by
    have hall : n + y * 128 ^ i < 2 ^ 64 := by
      have h2 : (2 : Nat) ^ 64 = 2 ^ (64 - 7 * i) * 128 ^ i := by
        rw [show (128 : Nat) ^ i = 2 ^ (7 * i) by rw [Nat.pow_mul], ← Nat.pow_add, show 64 - 7 * i + 7 * i = 64 by omega]
      rw [h2]
      calc n + y * 128 ^ i < 128 ^ i + y * 128 ^ i := by omega
        _ = (y + 1) * 128 ^ i := by rw [Nat.add_mul]; omega
        _ ≤ _ := Nat.mul_le_mul_right _ hy
    rw [tNumL]
    by_cases h : y < 128
    · rw [tOne_small h]
      dsimp only
      rw [if_pos h, Nat.mod_eq_of_lt h, Nat.mod_eq_of_lt hall]
    · have hi8 : i ≤ 8 := by
        rcases Nat.lt_or_ge i 9 with h' | h'
        · omega
        · have : i = 9 := by omega
          subst this
          have e : 2 ^ (64 - 7 * 9) = 2 := rfl
          omega
      have hd := digits n y i
      rw [pow7 hi8] at hy
      rw [tOne_big h]
      dsimp only
      have e : (y % 128 + 128) % 128 = y % 128 := by omega
      have hlt : n + y % 128 * 128 ^ i < 128 ^ (i + 1) := by
        have h1 : y % 128 * 128 ^ i ≤ 127 * 128 ^ i := Nat.mul_le_mul_right _ (by omega)
        rw [Nat.pow_succ]
        omega
      rw [if_neg (by omega), e, Nat.mod_eq_of_lt (by omega), tNumL_to k (i + 1) _ (y / 128) r (by omega) (by omega) hlt (by omega), hd]
theorem tNum_to (x : Int) (r : List UInt8) (h : inI x) : tNum ⟨uv (zz x) ++ r, true⟩ = (x, ⟨r, true⟩) := by
  rw [tNum, tNumL_to 10 0 0 (zz x) r rfl (by omega) (by simp) (zz_lt h)]
  simp [dz_zz]
theorem tText_to (x r : List UInt8) (h : x.length ≤ 4000) : tText ⟨uv x.length ++ (x ++ r), true⟩ = (x, ⟨r, true⟩) := by
  rw [tText, tNat_to x.length (x ++ r) (by omega), if_neg (by simp only [List.length_append]; omega)]
  simp
theorem tLoop_to {α : Type} {g : TG α} {enc : α → List UInt8} {size : α → Nat} : ∀ (l : List α) (r : List UInt8) (m : Int), (∀ x ∈ l, ∀ r m, (((l.map size).sum : Nat) : Int) ≥ (size x : Nat) → (size x : Int) ≤ m → g ⟨enc x ++ r, true⟩ m = (x, ⟨r, true⟩, m - size x)) → (((l.map size).sum : Nat) : Int) ≤ m → tLoop g l.length ⟨l.flatMap enc ++ r, true⟩ m = (l, ⟨r, true⟩, m - ((l.map size).sum : Nat))
  | [], r, m, _, _ => by simp [tLoop]
  | a :: l, r, m, h, hm => by
    simp only [List.map_cons, List.sum_cons] at hm h ⊢
    rw [List.length_cons, tLoop, if_pos rfl]
    rw [List.flatMap_cons, List.append_assoc, h a (by simp) _ _ (by omega) (by omega)]
    dsimp only
    rw [tLoop_to l r _ (fun x hx r m h1 h2 => h x (List.mem_cons_of_mem _ hx) r m (by omega) h2) (by omega)]
    simp only [Prod.mk.injEq, true_and]
    omega
/-- no text of it is too long -/
def V.short (v : V) : Bool := v.every (fun x _ => decide (x.text.size ≤ 4000)) 0
theorem every_mem {p : V → Nat → Bool} {k n : Int} {t : ByteArray} {l : List V} {d : Nat} (h : (V.mk k n t l).every p d = true) : p (.mk k n t l) d = true ∧ ∀ x ∈ l, x.every p (d + 1) = true := by
  rw [V.every, V.everys_eq, Bool.and_eq_true, List.all_eq_true] at h
  exact h
theorem V.sizes_sum : ∀ l : List V, V.sizes l = (l.map V.size).sum
  | [] => rfl
  | v :: l => by simp [V.sizes, V.sizes_sum l]
theorem tVal_to (v : V) : ∀ (f d e : Nat) (r : List UInt8) (m : Int), v.ok → v.kin → v.every (fun x _ => decide (x.text.size ≤ 4000)) e = true → v.low (d + 1) = true → d + f = 40 → (v.size : Int) ≤ m → v.size ≤ 1048576 → tVal f ⟨v.bytes ++ r, true⟩ m = (v, ⟨r, true⟩, m - v.size) := by
  induction v using V.ind with
  | h k n t l ih =>
    intro f d e r m hok hkin hsh hlow hf hm hbig
    simp only [V.low, V.every, V.everys_eq, Bool.and_eq_true, decide_eq_true_eq, List.all_eq_true] at hlow
    obtain ⟨hd, hsub⟩ := hlow
    obtain ⟨hs1, hs2⟩ := every_mem hsh
    have hs1 : t.size ≤ 4000 := of_decide_eq_true (p := t.size ≤ 4000) hs1
    simp only [V.ok] at hok
    simp only [V.kin] at hkin
    simp only [V.size] at hm hbig
    obtain ⟨g, rfl⟩ : ∃ g, f = g + 1 := ⟨f - 1, by omega⟩
    rw [tVal, if_neg (by omega), if_neg (by simp)]
    have hb : tOne ⟨(V.mk k n t l).bytes ++ r, true⟩ = ((kb k).toNat, ⟨uv (zz n) ++ (uv t.size ++ (t.data.toList ++ (uv l.length ++ (l.flatMap V.bytes ++ r)))), true⟩) := by
      simp only [V.bytes, V.bytesAll_eq, tOne, List.cons_append, List.append_assoc]
    have hlen := V.len_sizes l
    have hl : tLoop (tVal g) l.length ⟨l.flatMap V.bytes ++ r, true⟩ (m - 1) = (l, ⟨r, true⟩, m - 1 - ((l.map V.size).sum : Nat)) := by
      refine tLoop_to l r (m - 1) (fun x hx r' m' h1 h2 => ?_) (by rw [← V.sizes_sum]; omega)
      have h3 := V.size_mem hx
      exact ih x hx g (d + 1) (e + 1) r' m' ((V.oks_iff l).1 hok.2 x hx) ((V.kins_iff l).1 hkin.2 x hx) (hs2 x hx) (hsub x hx) (by omega) h2 (by omega)
    have ht : tText ⟨uv t.size ++ (t.data.toList ++ (uv l.length ++ (l.flatMap V.bytes ++ r))), true⟩ = (t.data.toList, ⟨uv l.length ++ (l.flatMap V.bytes ++ r), true⟩) := by
      have := tText_to t.data.toList (uv l.length ++ (l.flatMap V.bytes ++ r)) (by rw [sz_len]; omega)
      rwa [sz_len] at this
    simp only [hb]
    rw [tNum_to n _ hok.1]
    simp only [ht]
    rw [tNat_to l.length _ (by omega)]
    simp only [hl, toNat_kb hkin.1, bs_self, V.size, V.sizes_sum, Prod.mk.injEq, true_and]
    omega

theorem tNumL_in : ∀ (k i n : Nat) (s : TS), inI (tNumL k i n s).1
  | 0, _, _, s => by simp [tNumL, inI]
  | k + 1, i, n, s => by
    rw [tNumL]
    split
    · exact dz_in (Nat.mod_lt _ (by decide))
    · exact tNumL_in k _ _ _
theorem tText_len (s : TS) : (tText s).1.length ≤ 4000 := by
  unfold tText
  split
  · simp
  · rename_i h
    simp only [List.length_take]
    omega
/-- what is taken is of so many nodes as were counted -/
structure TFair (g : TG V) : Prop where
  fair : ∀ s m, 0 ≤ m → (g s m).1.ok ∧ ((g s m).1.size : Int) ≤ m - (g s m).2.2 ∧ -1 ≤ (g s m).2.2 ∧ ((g s m).2.1.ok = true → 0 ≤ (g s m).2.2) ∧ (g s m).1.txt ≤ 4000 * (g s m).1.size
theorem tLoop_fair {g : TG V} (hg : TFair g) : ∀ (n : Nat) (s : TS) (m : Int), -1 ≤ m → (s.ok = true → 0 ≤ m) → V.oks (tLoop g n s m).1 ∧ (V.sizes (tLoop g n s m).1 : Int) ≤ m - (tLoop g n s m).2.2 ∧ -1 ≤ (tLoop g n s m).2.2 ∧ ((tLoop g n s m).2.1.ok = true → 0 ≤ (tLoop g n s m).2.2) ∧ V.txts (tLoop g n s m).1 ≤ 4000 * V.sizes (tLoop g n s m).1
  | 0, s, m, h1, h2 => by simp [tLoop, V.oks, V.sizes, V.txts]; exact ⟨h1, h2⟩
  | n + 1, s, m, h1, h2 => by
    rw [tLoop]
    split
    · rename_i hok
      obtain ⟨g1, g2, g3, g4, g5⟩ := hg.fair s m (h2 hok)
      obtain ⟨i1, i2, i3, i4, i5⟩ := tLoop_fair hg n (g s m).2.1 (g s m).2.2 g3 g4
      simp only [V.oks, V.sizes, V.txts]
      exact ⟨⟨g1, i1⟩, by omega, i3, i4, by omega⟩
    · simp [V.oks, V.sizes, V.txts]; exact ⟨h1, h2⟩
theorem zero_fair : V.zero.ok ∧ V.zero.size = 1 ∧ V.zero.txt = 0 := by
  refine ⟨by simp [V.zero, V.ok, V.oks, inI], by simp [V.zero, V.size, V.sizes], by simp [V.zero, V.txt, V.txts]; rfl⟩
theorem tVal_fair : ∀ d, TFair (tVal d)
  | 0 => ⟨fun s m hm => by
    obtain ⟨z1, z2, z3⟩ := zero_fair
    simp only [tVal, TS.fail, z2, z3]
    exact ⟨z1, by omega, by omega, (fun h => by cases h), by omega⟩⟩
  | d + 1 => ⟨fun s m hm => by
    obtain ⟨z1, z2, z3⟩ := zero_fair
    rw [tVal]
    split
    · simp only [TS.fail, z2, z3]
      exact ⟨z1, by omega, by omega, (fun h => by cases h), by omega⟩
    · rename_i h0
      split
      · simp only [z2, z3]
        exact ⟨z1, by omega, by omega, (fun _ => by omega), by omega⟩
      · dsimp only
        have hn := tNumL_in 10 0 0 (tOne s).2
        have ht := tText_len (tNum (tOne s).2).2
        obtain ⟨i1, i2, i3, i4, i5⟩ := tLoop_fair (tVal_fair d) (tNat (tText (tNum (tOne s).2).2).2).1 (tNat (tText (tNum (tOne s).2).2).2).2 (m - 1) (by omega) (fun _ => by omega)
        generalize tLoop (tVal d) (tNat (tText (tNum (tOne s).2).2).2).1 (tNat (tText (tNum (tOne s).2).2).2).2 (m - 1) = q at *
        generalize tText (tNum (tOne s).2).2 = q3 at *
        simp only [V.ok, V.size, V.txt, bs_size']
        exact ⟨⟨hn, i1⟩, by omega, i3, i4, by omega⟩⟩

theorem tNatL_lt : ∀ (k i n : Nat) (s : TS), i + k = 9 → n < 128 ^ i → (tNatL k i n s).1 < 128 ^ 9
  | 0, i, n, s, h, hn => by simp [tNatL]
  | k + 1, i, n, s, h, hn => by
    have h1 : (tOne s).1 % 128 * 128 ^ i ≤ 127 * 128 ^ i := Nat.mul_le_mul_right _ (by omega)
    have h2 : n + (tOne s).1 % 128 * 128 ^ i < 128 ^ (i + 1) := by rw [Nat.pow_succ]; omega
    rw [tNatL]
    split
    · have : 128 ^ (i + 1) ≤ 128 ^ 9 := Nat.pow_le_pow_right (by omega) (by omega)
      simp only
      omega
    · exact tNatL_lt k (i + 1) _ _ (by omega) h2
theorem tNat_lt (s : TS) : (tNat s).1 ≤ 9223372036854775807 := by
  have h := tNatL_lt 9 0 0 s rfl (by simp)
  have e : 128 ^ 9 = 9223372036854775808 := rfl
  rw [e] at h
  unfold tNat
  omega

end Go.Proofs.Ythgackidonocpaa
