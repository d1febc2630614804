/-
  Texts of this proof, part 7: Ttk Trt5 Ab24 Trd.
-/
import Derived.Test.YthgackidonocpaaGreatQStoreLast6
import Derived.MapKept
namespace Go.Proofs.YthgackidonocpaaGreat
open Go.RowKit
structure TS where
  l : List UInt8
  ok : Bool
def TS.fail (s : TS) : TS := { s with ok := false }
def tOne (s : TS) : Nat × TS := match s.l with | [] => (0, s.fail) | a :: r => (a.toNat, { s with l := r })
def tNatL : Nat → Nat → Nat → TS → Nat × TS
  | 0, _, _, s => (0, s.fail)
  | k + 1, i, n, s => if (tOne s).1 < 128 then (n + (tOne s).1 % 128 * 128 ^ i, (tOne s).2) else tNatL k (i + 1) (n + (tOne s).1 % 128 * 128 ^ i) (tOne s).2
def tNat (s : TS) : Nat × TS := tNatL 9 0 0 s
def tNumL : Nat → Nat → Nat → TS → Int × TS
  | 0, _, _, s => (0, s.fail)
  | k + 1, i, n, s => if (tOne s).1 < 128 then (dz ((n + (tOne s).1 % 128 * 128 ^ i) % 2 ^ 64), (tOne s).2) else tNumL k (i + 1) ((n + (tOne s).1 % 128 * 128 ^ i) % 2 ^ 64) (tOne s).2
def tNum (s : TS) : Int × TS := tNumL 10 0 0 s
def tText (s : TS) : List UInt8 × TS := if (tNat s).2.l.length < (tNat s).1 ∨ 4000 < (tNat s).1 then ([], (tNat s).2.fail) else ((tNat s).2.l.take (tNat s).1, { (tNat s).2 with l := (tNat s).2.l.drop (tNat s).1 })
abbrev TG (α : Type) := TS → Int → α × TS × Int
def tLoop {α : Type} (g : TG α) : Nat → TS → Int → List α × TS × Int
  | 0, s, m => ([], s, m)
  | n + 1, s, m => if s.ok then ((g s m).1 :: (tLoop g n (g s m).2.1 (g s m).2.2).1, (tLoop g n (g s m).2.1 (g s m).2.2).2) else ([], s, m)
def tVal : Nat → TG V
  | 0, s, m => (V.zero, s.fail, m - 1)
  | d + 1, s, m =>
    if m - 1 < 0 then (V.zero, s.fail, m - 1)
    else if s.ok = false then (V.zero, s, m - 1)
    else
      let p1 := tOne s
      let p2 := tNum p1.2
      let p3 := tText p2.2
      let p4 := tNat p3.2
      let p5 := tLoop (tVal d) p4.1 p4.2 (m - 1)
      (.mk p1.1 p2.1 (bs p3.1) p5.1, p5.2)
theorem tOne_lt (s : TS) : (tOne s).1 < 256 := by
  obtain ⟨l, b⟩ := s
  cases l with
  | nil => simp [tOne]
  | cons a r => exact a.toNat_lt
theorem tOne_small {y : Nat} (hy : y < 128) (r : List UInt8) : tOne ⟨uv y ++ r, true⟩ = (y, ⟨r, true⟩) := by
  rw [uv_small hy]
  simp only [tOne, List.cons_append, List.nil_append]
  rw [UInt8.toNat_ofNat', Nat.mod_eq_of_lt (by omega)]
theorem tOne_big {y : Nat} (hy : ¬ y < 128) (r : List UInt8) : tOne ⟨uv y ++ r, true⟩ = (y % 128 + 128, ⟨uv (y / 128) ++ r, true⟩) := by
  rw [uv_big hy]
  simp only [tOne, List.cons_append]
  rw [UInt8.toNat_ofNat', Nat.mod_eq_of_lt (by omega)]
theorem digits (n y i : Nat) : n + y % 128 * 128 ^ i + y / 128 * 128 ^ (i + 1) = n + y * 128 ^ i := by
  rw [Nat.pow_succ]
  have : y / 128 * (128 ^ i * 128) = 128 * (y / 128) * 128 ^ i := by
    rw [Nat.mul_comm (128 ^ i) 128, ← Nat.mul_assoc, Nat.mul_comm (y / 128) 128]
  rw [this, Nat.add_assoc, ← Nat.add_mul]
  congr 2
  omega
theorem tNatL_to : ∀ (k i n y : Nat) (r : List UInt8), i + k = 9 → i ≤ 8 → y < 2 ^ (63 - 7 * i) → tNatL k i n ⟨uv y ++ r, true⟩ = (n + y * 128 ^ i, ⟨r, true⟩)
  | 0, i, _, _, _, h, h8, _ => by omega
  | k + 1, i, n, y, r, hk, h8, hy => by
    rw [tNatL]
    by_cases h : y < 128
    · rw [tOne_small h]
      dsimp only
      rw [if_pos h, Nat.mod_eq_of_lt h]
    · have hi7 : i ≤ 7 := by
        rcases Nat.lt_or_ge i 8 with h' | h'
        · omega
        · have : i = 8 := by omega
          subst this
          have e : 2 ^ (63 - 7 * 8) = 128 := rfl
          omega
      have hp : 2 ^ (63 - 7 * i) = 128 * 2 ^ (63 - 7 * (i + 1)) := by rw [show 63 - 7 * i = 7 + (63 - 7 * (i + 1)) by omega, Nat.pow_add]
      rw [hp] at hy
      rw [tOne_big h]
      dsimp only
      rw [if_neg (by omega), tNatL_to k (i + 1) _ (y / 128) r (by omega) (by omega) (by omega)]
      have e : (y % 128 + 128) % 128 = y % 128 := by omega
      rw [e, digits]
theorem tNat_to (x : Nat) (r : List UInt8) (h : x ≤ 9223372036854775807) : tNat ⟨uv x ++ r, true⟩ = (x, ⟨r, true⟩) := by
  rw [tNat, tNatL_to 9 0 0 x r rfl (by omega) (by have e : 2 ^ (63 - 7 * 0) = 9223372036854775808 := rfl
                                                  omega)]
  simp
theorem tNumL_to : ∀ (k i n y : Nat) (r : List UInt8), i + k = 10 → i ≤ 9 → n < 128 ^ i → y < 2 ^ (64 - 7 * i) → tNumL k i n ⟨uv y ++ r, true⟩ = (dz (n + y * 128 ^ i), ⟨r, true⟩)
  | 0, i, _, _, _, h, h8, _, _ => by omega
  | k + 1, i, n, y, r, hk, h9, hn, hy => by
    have hall : n + y * 128 ^ i < 2 ^ 64 := by
      have h2 : (2 : Nat) ^ 64 = 2 ^ (64 - 7 * i) * 128 ^ i := by
        rw [show (128 : Nat) ^ i = 2 ^ (7 * i) by rw [Nat.pow_mul], ← Nat.pow_add, show 64 - 7 * i + 7 * i = 64 by omega]
      rw [h2]
      calc n + y * 128 ^ i < 128 ^ i + y * 128 ^ i := by omega
        _ = (y + 1) * 128 ^ i := by rw [Nat.add_mul]; omega
        _ ≤ _ := Nat.mul_le_mul_right _ hy
    rw [tNumL]
    by_cases h : y < 128
    · rw [tOne_small h]
      dsimp only
      rw [if_pos h, Nat.mod_eq_of_lt h, Nat.mod_eq_of_lt hall]
    · have hi8 : i ≤ 8 := by
        rcases Nat.lt_or_ge i 9 with h' | h'
        · omega
        · have : i = 9 := by omega
          subst this
          have e : 2 ^ (64 - 7 * 9) = 2 := rfl
          omega
      have hd := digits n y i
      rw [pow7 hi8] at hy
      rw [tOne_big h]
      dsimp only
      have e : (y % 128 + 128) % 128 = y % 128 := by omega
      have hlt : n + y % 128 * 128 ^ i < 128 ^ (i + 1) := by
        have h1 : y % 128 * 128 ^ i ≤ 127 * 128 ^ i := Nat.mul_le_mul_right _ (by omega)
        rw [Nat.pow_succ]
        omega
      rw [if_neg (by omega), e, Nat.mod_eq_of_lt (by omega), tNumL_to k (i + 1) _ (y / 128) r (by omega) (by omega) hlt (by omega), hd]
theorem tNum_to (x : Int) (r : List UInt8) (h : inI x) : tNum ⟨uv (zz x) ++ r, true⟩ = (x, ⟨r, true⟩) := by
  rw [tNum, tNumL_to 10 0 0 (zz x) r rfl (by omega) (by simp) (zz_lt h)]
  simp [dz_zz]
theorem tText_to (x r : List UInt8) (h : x.length ≤ 4000) : tText ⟨uv x.length ++ (x ++ r), true⟩ = (x, ⟨r, true⟩) := by
  rw [tText, tNat_to x.length (x ++ r) (by omega), if_neg (by simp only [List.length_append]; omega)]
  simp
theorem tLoop_to {α : Type} {g : TG α} {enc : α → List UInt8} {size : α → Nat} : ∀ (l : List α) (r : List UInt8) (m : Int), (∀ x ∈ l, ∀ r m, (((l.map size).sum : Nat) : Int) ≥ (size x : Nat) → (size x : Int) ≤ m → g ⟨enc x ++ r, true⟩ m = (x, ⟨r, true⟩, m - size x)) → (((l.map size).sum : Nat) : Int) ≤ m → tLoop g l.length ⟨l.flatMap enc ++ r, true⟩ m = (l, ⟨r, true⟩, m - ((l.map size).sum : Nat))
  | [], r, m, _, _ => by simp [tLoop]
  | a :: l, r, m, h, hm => by
    simp only [List.map_cons, List.sum_cons] at hm h ⊢
    rw [List.length_cons, tLoop, if_pos rfl]
    rw [List.flatMap_cons, List.append_assoc, h a (by simp) _ _ (by omega) (by omega)]
    dsimp only
    rw [tLoop_to l r _ (fun x hx r m h1 h2 => h x (List.mem_cons_of_mem _ hx) r m (by omega) h2) (by omega)]
    simp only [Prod.mk.injEq, true_and]
    omega
theorem every_mem {p : V → Nat → Bool} {k n : Int} {t : ByteArray} {l : List V} {d : Nat} (h : (V.mk k n t l).every p d = true) : p (.mk k n t l) d = true ∧ ∀ x ∈ l, x.every p (d + 1) = true := by
  rw [V.every, V.everys_eq, Bool.and_eq_true, List.all_eq_true] at h
  exact h
theorem V.sizes_sum : ∀ l : List V, V.sizes l = (l.map V.size).sum
  | [] => rfl
  | v :: l => by simp [V.sizes, V.sizes_sum l]
theorem tVal_to (v : V) : ∀ (f d e : Nat) (r : List UInt8) (m : Int), v.ok → v.kin → v.every (fun x _ => decide (x.text.size ≤ 4000)) e = true → v.low (d + 1) = true → d + f = 40 → (v.size : Int) ≤ m → v.size ≤ 1048576 → tVal f ⟨v.bytes ++ r, true⟩ m = (v, ⟨r, true⟩, m - v.size) := by
  induction v using V.ind with
  | h k n t l ih =>
    intro f d e r m hok hkin hsh hlow hf hm hbig
    simp only [V.low, V.every, V.everys_eq, Bool.and_eq_true, decide_eq_true_eq, List.all_eq_true] at hlow
    obtain ⟨hd, hsub⟩ := hlow
    obtain ⟨hs1, hs2⟩ := every_mem hsh
    have hs1 : t.size ≤ 4000 := of_decide_eq_true (p := t.size ≤ 4000) hs1
    simp only [V.ok] at hok
    simp only [V.kin] at hkin
    simp only [V.size] at hm hbig
    obtain ⟨g, rfl⟩ : ∃ g, f = g + 1 := ⟨f - 1, by omega⟩
    rw [tVal, if_neg (by omega), if_neg (by simp)]
    have hb : tOne ⟨(V.mk k n t l).bytes ++ r, true⟩ = ((kb k).toNat, ⟨uv (zz n) ++ (uv t.size ++ (t.data.toList ++ (uv l.length ++ (l.flatMap V.bytes ++ r)))), true⟩) := by
      simp only [V.bytes, V.bytesAll_eq, tOne, List.cons_append, List.append_assoc]
    have hlen := V.len_sizes l
    have hl : tLoop (tVal g) l.length ⟨l.flatMap V.bytes ++ r, true⟩ (m - 1) = (l, ⟨r, true⟩, m - 1 - ((l.map V.size).sum : Nat)) := by
      refine tLoop_to l r (m - 1) (fun x hx r' m' h1 h2 => ?_) (by rw [← V.sizes_sum]; omega)
      have h3 := V.size_mem hx
      exact ih x hx g (d + 1) (e + 1) r' m' ((V.oks_iff l).1 hok.2 x hx) ((V.kins_iff l).1 hkin.2 x hx) (hs2 x hx) (hsub x hx) (by omega) h2 (by omega)
    have ht : tText ⟨uv t.size ++ (t.data.toList ++ (uv l.length ++ (l.flatMap V.bytes ++ r))), true⟩ = (t.data.toList, ⟨uv l.length ++ (l.flatMap V.bytes ++ r), true⟩) := by
      have := tText_to t.data.toList (uv l.length ++ (l.flatMap V.bytes ++ r)) (by rw [sz_len]; omega)
      rwa [sz_len] at this
    simp only [hb]
    rw [tNum_to n _ hok.1]
    simp only [ht]
    rw [tNat_to l.length _ (by omega)]
    simp only [hl, toNat_kb hkin.1, bs_self, V.size, V.sizes_sum, Prod.mk.injEq, true_and]
    omega
theorem tNumL_in : ∀ (k i n : Nat) (s : TS), inI (tNumL k i n s).1
  | 0, _, _, s => by simp [tNumL, inI]
  | k + 1, i, n, s => by
    rw [tNumL]
    split
    · exact dz_in (Nat.mod_lt _ (by decide))
    · exact tNumL_in k _ _ _
theorem tText_len (s : TS) : (tText s).1.length ≤ 4000 := by
  unfold tText
  split
  · simp
  · rename_i h
    simp only [List.length_take]
    omega
/-- what is taken is of so many nodes asq were counted -/
structure TFair (g : TG V) : Prop where
  fair : ∀ s m, 0 ≤ m → (g s m).1.ok ∧ ((g s m).1.size : Int) ≤ m - (g s m).2.2 ∧ -1 ≤ (g s m).2.2 ∧ ((g s m).2.1.ok = true → 0 ≤ (g s m).2.2) ∧ (g s m).1.txt ≤ 4000 * (g s m).1.size
theorem tLoop_fair {g : TG V} (hg : TFair g) : ∀ (n : Nat) (s : TS) (m : Int), -1 ≤ m → (s.ok = true → 0 ≤ m) → V.oks (tLoop g n s m).1 ∧ (V.sizes (tLoop g n s m).1 : Int) ≤ m - (tLoop g n s m).2.2 ∧ -1 ≤ (tLoop g n s m).2.2 ∧ ((tLoop g n s m).2.1.ok = true → 0 ≤ (tLoop g n s m).2.2) ∧ V.txts (tLoop g n s m).1 ≤ 4000 * V.sizes (tLoop g n s m).1
  | 0, s, m, h1, h2 => by simp [tLoop, V.oks, V.sizes, V.txts]; exact ⟨h1, h2⟩
  | n + 1, s, m, h1, h2 => by
    rw [tLoop]
    split
    · rename_i hok
      obtain ⟨g1, g2, g3, g4, g5⟩ := hg.fair s m (h2 hok)
      obtain ⟨i1, i2, i3, i4, i5⟩ := tLoop_fair hg n (g s m).2.1 (g s m).2.2 g3 g4
      simp only [V.oks, V.sizes, V.txts]
      exact ⟨⟨g1, i1⟩, by omega, i3, i4, by omega⟩
    · simp [V.oks, V.sizes, V.txts]; exact ⟨h1, h2⟩
theorem zero_fair : V.zero.ok ∧ V.zero.size = 1 ∧ V.zero.txt = 0 := by
  refine ⟨by simp [V.zero, V.ok, V.oks, inI], by simp [V.zero, V.size, V.sizes], by simp [V.zero, V.txt, V.txts]; rfl⟩
theorem tVal_fair : ∀ d, TFair (tVal d)
  | 0 => ⟨fun s m hm => by
    obtain ⟨z1, z2, z3⟩ := zero_fair
    simp only [tVal, TS.fail, z2, z3]
    exact ⟨z1, by omega, by omega, (fun h => by cases h), by omega⟩⟩
  | d + 1 => ⟨fun s m hm => by
    obtain ⟨z1, z2, z3⟩ := zero_fair
    rw [tVal]
    split
    · simp only [TS.fail, z2, z3]
      exact ⟨z1, by omega, by omega, (fun h => by cases h), by omega⟩
    · rename_i h0
      split
      · simp only [z2, z3]
        exact ⟨z1, by omega, by omega, (fun _ => by omega), by omega⟩
      · dsimp only
        have hn := tNumL_in 10 0 0 (tOne s).2
        have ht := tText_len (tNum (tOne s).2).2
        obtain ⟨i1, i2, i3, i4, i5⟩ := tLoop_fair (tVal_fair d) (tNat (tText (tNum (tOne s).2).2).2).1 (tNat (tText (tNum (tOne s).2).2).2).2 (m - 1) (by omega) (fun _ => by omega)
        generalize tLoop (tVal d) (tNat (tText (tNum (tOne s).2).2).2).1 (tNat (tText (tNum (tOne s).2).2).2).2 (m - 1) = q at *
        generalize tText (tNum (tOne s).2).2 = q3 at *
        simp only [V.ok, V.size, V.txt, bs_size']
        exact ⟨⟨hn, i1⟩, by omega, i3, i4, by omega⟩⟩
theorem tNatL_lt : ∀ (k i n : Nat) (s : TS), i + k = 9 → n < 128 ^ i → (tNatL k i n s).1 < 128 ^ 9
  | 0, i, n, s, h, hn => by simp [tNatL]
  | k + 1, i, n, s, h, hn => by
    have h1 : (tOne s).1 % 128 * 128 ^ i ≤ 127 * 128 ^ i := Nat.mul_le_mul_right _ (by omega)
    have h2 : n + (tOne s).1 % 128 * 128 ^ i < 128 ^ (i + 1) := by rw [Nat.pow_succ]; omega
    rw [tNatL]
    split
    · have : 128 ^ (i + 1) ≤ 128 ^ 9 := Nat.pow_le_pow_right (by omega) (by omega)
      simp only
      omega
    · exact tNatL_lt k (i + 1) _ _ (by omega) h2
theorem tNat_lt (s : TS) : (tNat s).1 ≤ 9223372036854775807 := by
  have h := tNatL_lt 9 0 0 s rfl (by simp)
  have e : 128 ^ 9 = 9223372036854775808 := rfl
  rw [e] at h
  unfold tNat
  omega
end Go.Proofs.YthgackidonocpaaGreat
namespace Go.Proofs.YthgackidonocpaaGreat
open Go.RowKit
theorem tmod128 (u : Nat) : ((u : Int)).tmod 128 = ((u % 128 : Nat) : Int) := by
  rw [Int.tmod_eq_emod_of_nonneg (by omega)]; omega
theorem tdiv128 (u : Nat) : ((u : Int)).tdiv 128 = ((u / 128 : Nat) : Int) := by
  rw [Int.tdiv_eq_ediv_of_nonneg (by omega)]; omega
theorem one_u8 {n : Nat} (h : n < 256) : [T.lit (.int .u8 (n : Int))] = byts [UInt8.ofNat n] := by rw [u8_of h]; rfl
theorem one_kb (k : Int) : [T.lit (.int .u8 (IntKind.u8.wrap k))] = byts [kb k] := by rw [← kb_T]; rfl
set_option maxRecDepth 100000 in
set_option maxHeartbeats 2000000 in
theorem rnat_af (n : Nat) (hn : n < 2 ^ 64) : AF Tryz.prog 54 [.lit (.int .u64 (n : Int))] (· = .lit (.string (bs (uv n)))) := by
  have hul := uv_len64 hn
  refine af_enter tok Tryz.func54 Tryz.ntmps54 Tryz.results54 rfl (by kernel_rfl) rfl rfl fun F hX => ?_
  repeat (first | refine gG ?_)
  refine x_loop [0, 3, 4, 5, 6, 7, 8, 9, 10, 11, 12, 13, 14, 15] (fun y : Nat × List UInt8 => [(0, .c (.lit (.int .u64 (y.1 : Int)))), (3, .c (.lit (.string (bs y.2))))]) (fun _ => [])
    (fun y => y.1 < 2 ^ 64 ∧ y.2 ++ uv y.1 = uv n) (fun y => y.1) (n, []) ⟨hn, rfl⟩ ⟨rfl, rfl, trivial⟩ rfl ?_
  rintro ⟨u, l⟩ ⟨hu, hinv⟩
  dsimp only at hu hinv ⊢
  have hlen : l.length + (uv u).length ≤ 10 := by
    have := congrArg List.length hinv
    simp only [List.length_append] at this
    omega
  repeat (first | refine gG ?_)
  refine x_cond rfl (fun h => ?_) (fun h => ?_)
  · have hu' : ¬ u < 128 := by have : (127 : Int) < (u : Int) := of_decide_eq_true h
                               omega
    rw [uv_big hu'] at hinv hlen
    simp only [List.length_cons] at hlen
    repeat (first | refine gG ?_)
    refine lo_rem rfl rfl (by omega) (tmod128 u) ?_
    repeat (first | refine gG ?_)
    refine lo_add rfl rfl (r := ((u % 128 + 128 : Nat) : Int)) (by rw [wrap_u64]; omega) ?_
    repeat (first | refine gG ?_)
    refine lo_conv tok rfl rfl rfl rfl (r := ((u % 128 + 128 : Nat) : Int)) (by rw [wrap_u8]; omega) ?_
    repeat (first | refine gG ?_)
    refine zStr [UInt8.ofNat (u % 128 + 128)] (one_u8 (show u % 128 + 128 < 256 by omega)) rfl ?_
    repeat (first | refine gG ?_)
    refine zCatb l [UInt8.ofNat (u % 128 + 128)] (by simp only [List.length_cons, List.length_nil]; omega) ?_
    repeat (first | refine gG ?_)
    refine lo_quo rfl rfl (by omega) (r := ((u / 128 : Nat) : Int)) (by rw [tdiv128, wrap_u64]; omega) ?_
    repeat (first | refine gG ?_)
    exact ⟨(u / 128, l ++ [UInt8.ofNat (u % 128 + 128)]), ⟨by simp only; omega, by simpa using hinv⟩, by simp only; omega, x_wkd 0 ⟨rfl, rfl, trivial⟩ rfl (by repeat (first | exact ag_refl | refine ag_upd rfl ?_ | refine ag_at rfl rfl ?_))⟩
  · have hu' : u < 128 := by have : ¬ (127 : Int) < (u : Int) := of_decide_eq_false h
                             omega
    rw [uv_small hu'] at hinv hlen
    simp only [List.length_cons, List.length_nil] at hlen
    repeat (first | refine gG ?_)
    refine lo_conv tok rfl rfl rfl rfl (r := (u : Int)) (by rw [wrap_u8]; omega) ?_
    repeat (first | refine gG ?_)
    refine zStr [UInt8.ofNat u] (one_u8 (show u < 256 by omega)) rfl ?_
    repeat (first | refine gG ?_)
    refine zCatb l [UInt8.ofNat u] (by simp only [List.length_cons, List.length_nil]; omega) ?_
    repeat (first | refine gG ?_)
    first | refine zR ?_ | refine zQ ?_
    rw [hinv]; rfl
set_option maxRecDepth 100000 in
set_option maxHeartbeats 2000000 in
theorem rnum_af (n : Int) (hn : inI n) : AF Tryz.prog 56 [.lit (.int .i64 n)] (· = .lit (.string (bs (uv (zz n))))) := by
  have hc := rnat_af (zz n) (zz_lt hn)
  unfold inI at hn
  refine af_enter tok Tryz.func56 Tryz.ntmps56 Tryz.results56 rfl (by kernel_rfl) rfl rfl fun F hX => ?_
  cases d1 : decide (n < 0)
  · have h0 : ¬ n < 0 := of_decide_eq_false d1
    repeat (first | refine gG ?_)
    refine lo_conv tok rfl rfl rfl rfl (r := n) (by rw [wrap_u64]; omega) ?_
    repeat (first | refine gG ?_)
    refine lo_mul rfl rfl (r := ((zz n : Nat) : Int)) (by rw [wrap_u64, zz, if_pos (by omega)]; omega) ?_
    repeat (first | refine gG ?_)
    refine zCall (hc) ?_
    rintro _ rfl
    repeat (first | refine gG ?_)
    first | refine zR ?_ | refine zQ ?_
    rfl
  · have h0 : n < 0 := of_decide_eq_true d1
    repeat (first | refine gG ?_)
    refine lo_add rfl rfl (r := n + 1) (by rw [IntWalk.i64_in _ (by omega)]) ?_
    repeat (first | refine gG ?_)
    refine lo_neg rfl (r := 0 - (n + 1)) (by rw [IntWalk.i64_in _ (by omega)]) ?_
    repeat (first | refine gG ?_)
    refine lo_conv tok rfl rfl rfl rfl (r := 0 - (n + 1)) (by rw [wrap_u64]; omega) ?_
    repeat (first | refine gG ?_)
    refine lo_mul rfl rfl (r := 2 * (0 - (n + 1))) (by rw [wrap_u64]; omega) ?_
    repeat (first | refine gG ?_)
    refine lo_add rfl rfl (r := ((zz n : Nat) : Int)) (by rw [wrap_u64, zz, if_neg (by omega)]; omega) ?_
    repeat (first | refine gG ?_)
    refine zCall (hc) ?_
    rintro _ rfl
    repeat (first | refine gG ?_)
    first | refine zR ?_ | refine zQ ?_
    rfl
set_option maxRecDepth 100000 in
set_option maxHeartbeats 4000000 in
theorem valueText_af (v : V) : v.ok → v.bytes.length ≤ 1099511627776 → AF Tryz.prog 57 [v.t] (· = .lit (.string (bs v.bytes))) := by
  induction v using V.ind with
  | h k n t l ih =>
    intro hok hb
    simp only [V.ok] at hok
    have hok2 := (V.oks_iff l).1 hok.2
    simp only [V.bytes, V.bytesAll_eq, List.length_cons, List.length_append, sz_len] at hb
    have hln : l.length ≤ 1099511627776 := by
      have h1 : ∀ r : List V, r.length ≤ (r.flatMap V.bytes).length := by
        intro r
        induction r with
        | nil => simp
        | cons a r ih => obtain ⟨ka, na, ta, la⟩ := a; simp only [List.flatMap_cons, List.length_append, List.length_cons, V.bytes]; omega
      have := h1 l
      omega
    have h1 := rnum_af n hok.1
    have h2 := rnat_af t.size (by omega)
    have h3 := rnat_af l.length (by omega)
    have w1 : IntKind.u64.wrap (t.size : Int) = (t.size : Int) := by rw [wrap_u64]; omega
    have w2 : IntKind.u64.wrap (l.length : Int) = (l.length : Int) := by rw [wrap_u64]; omega
    refine af_enter tok Tryz.func57 Tryz.ntmps57 Tryz.results57 rfl (by kernel_rfl) rfl rfl fun F hX => ?_
    repeat (first | refine gG ?_ | refine zN1 (fun hlen => ?_) | refine zN2 (fun hlen => ?_) | refine zAl (fun _ => ?_) | refine zBf ?_)
    refine ac_draw [1, 1, 1, 1, 1, 1, 1, 1, 1, 1, 1, 1, 1, 1, 1, 1, 1, 1, 1, 1, 1, 1, 1, 1, 1] [0, 1, 2, 3, 4, 5, 6, 7, 8, 9, 10, 11, 12, 13, 14, 15, 16, 17, 18, 19, 20, 21, 22, 23, 24] (by kernel_rfl) (by kernel_rfl) ?_
    refine gW ?_
    apply w_q; (focus exact rfl); (focus exact rfl); focus (intro _; (refine lo_conv tok rfl rfl rfl rfl rfl ?_); exact det_refl)
    refine gW ?_
    apply w_q; (focus exact rfl); (focus exact rfl); focus (intro _; (refine zStr [kb k] (one_kb k) rfl ?_); exact det_refl)
    refine gW ?_
    apply w_q; (focus exact rfl); (focus exact rfl); focus (intro _; (refine lo_call h1 rfl (by repeat (first | exact rzs_nil | apply rzs_cons | exact rz_c | exact rz_nil rfl | apply rz_agg | exact rz_own rfl | apply rz_fn | exact rz_ptr rfl | apply rz_tup)) ?_; rintro _ rfl); exact det_refl)
    apply w_q; (focus exact rfl); (focus exact rfl); focus (intro _; (refine zCatb [kb k] (uv (zz n)) (by simp only [List.length_cons, List.length_nil]; omega) ?_); exact det_refl)
    refine gW ?_
    apply w_q; (focus exact rfl); (focus exact rfl); focus (intro _; (refine lo_conv tok rfl rfl rfl rfl w1 ?_); exact det_refl)
    apply w_q; (focus exact rfl); (focus exact rfl); focus (intro _; (refine lo_call h2 rfl (by repeat (first | exact rzs_nil | apply rzs_cons | exact rz_c | exact rz_nil rfl | apply rz_agg | exact rz_own rfl | apply rz_fn | exact rz_ptr rfl | apply rz_tup)) ?_; rintro _ rfl); exact det_refl)
    apply w_q; (focus exact rfl); (focus exact rfl); focus (intro _; (refine zCatb ([kb k] ++ uv (zz n)) (uv t.size) (by simp only [List.length_append, List.length_cons, List.length_nil]; omega) ?_); exact det_refl)
    refine gW ?_
    apply w_q; (focus exact rfl); (focus exact rfl); focus (intro _; (refine zCatb ([kb k] ++ uv (zz n) ++ uv t.size) t.data.toList (by simp only [List.length_append, List.length_cons, List.length_nil, sz_len]; omega) ?_); exact det_refl)
    refine gW ?_
    apply w_q; (focus exact rfl); (focus exact rfl); focus (intro _; (refine lo_conv tok rfl rfl rfl rfl w2 ?_); exact det_refl)
    apply w_q; (focus exact rfl); (focus exact rfl); focus (intro _; (refine lo_call h3 rfl (by repeat (first | exact rzs_nil | apply rzs_cons | exact rz_c | exact rz_nil rfl | apply rz_agg | exact rz_own rfl | apply rz_fn | exact rz_ptr rfl | apply rz_tup)) ?_; rintro _ rfl); exact det_refl)
    apply w_q; (focus exact rfl); (focus exact rfl); focus (intro _; (refine zCatb ([kb k] ++ uv (zz n) ++ uv t.size ++ t.data.toList) (uv l.length) (by simp only [List.length_append, List.length_cons, List.length_nil, sz_len]; omega) ?_); exact det_refl)
    refine gW ?_
    refine w_nil ?_
    repeat (first | refine gG ?_ | refine zN1 (fun hlen => ?_) | refine zN2 (fun hlen => ?_) | refine zAl (fun _ => ?_) | refine zBx (fun _ => ?_))
    refine x_loop [3, 5, 33, 34, 35, 36, 37, 38, 39, 40, 41] (fun y : Nat => [(33, .c (.lit (.int .i64 (y : Nat)))), (3, .c (.lit (.string (bs ([kb k] ++ uv (zz n) ++ uv t.size ++ t.data.toList ++ uv l.length ++ (l.take y).flatMap V.bytes)))))]) (fun _ => []) (fun y => y ≤ l.length) (fun y => l.length - y) 0 (Nat.zero_le _) ⟨rfl, by simp; rfl, trivial⟩ rfl ?_
    intro i hi
    repeat (first | refine gG ?_ | refine zN1 (fun hlen => ?_) | refine zN2 (fun hlen => ?_) | refine zAl (fun _ => ?_) | refine zBx (fun _ => ?_))
    refine x_cond rfl (fun h => ?_) (fun h => ?_)
    · have hi' : i < l.length := by simpa using h
      obtain ⟨a, hla⟩ := nth hi'
      have hsn := flat_snoc' V.bytes hla
      have hle : ((l.take (i + 1)).flatMap V.bytes).length ≤ (l.flatMap V.bytes).length := by
        have := congrArg (fun r => (List.flatMap V.bytes r).length) (List.take_append_drop (i + 1) l)
        simp only [List.flatMap_append, List.length_append] at this
        omega
      rw [hsn, List.length_append] at hle
      have hc := ih a (List.mem_of_getElem? hla) (hok2 a (List.mem_of_getElem? hla)) (by omega)
      repeat (first | refine gG ?_ | refine zN1 (fun hlen => ?_) | refine zN2 (fun hlen => ?_) | refine zAl (fun _ => ?_) | refine zBx (fun _ => ?_))
      refine zIx (i) (hi') ?_
      repeat (first | refine gG ?_ | refine zN1 (fun hlen => ?_) | refine zN2 (fun hlen => ?_) | refine zAl (fun _ => ?_) | refine zBx (fun _ => ?_))
      refine zEl (V.at hla) (V.ts_len a) ?_
      obtain ⟨ka, na, ta, la⟩ := a
      repeat (first | refine gG ?_ | refine zN1 (fun hlen => ?_) | refine zN2 (fun hlen => ?_) | refine zAl (fun _ => ?_) | refine zBx (fun _ => ?_))
      refine zCall (hc) ?_
      rintro _ rfl
      repeat (first | refine gG ?_ | refine zN1 (fun hlen => ?_) | refine zN2 (fun hlen => ?_) | refine zAl (fun _ => ?_) | refine zBx (fun _ => ?_))
      refine zCatb ([kb k] ++ uv (zz n) ++ uv t.size ++ t.data.toList ++ uv l.length ++ (l.take i).flatMap V.bytes) (V.mk ka na ta la).bytes (by simp only [List.length_append, List.length_cons, List.length_nil, sz_len]; omega) ?_
      repeat (first | refine gG ?_ | refine zN1 (fun hlen => ?_) | refine zN2 (fun hlen => ?_) | refine zAl (fun _ => ?_) | refine zBx (fun _ => ?_))
      exact ⟨i + 1, hi', by omega, x_wkd 0 ⟨rfl, by simp only [hsn, List.append_assoc]; rfl, trivial⟩ rfl (by repeat (first | exact ag_refl | refine ag_upd rfl ?_ | refine ag_at rfl rfl ?_))⟩
    · have hi' : i = l.length := by have : ¬ i < l.length := by simpa using h
                                    omega
      subst hi'
      rw [List.take_length]
      repeat (first | refine gG ?_ | refine zN1 (fun hlen => ?_) | refine zN2 (fun hlen => ?_) | refine zAl (fun _ => ?_) | refine zBx (fun _ => ?_))
      first | refine zR ?_ | refine zQ ?_
      simp only [V.bytes, V.bytesAll_eq, List.append_assoc, List.cons_append, List.nil_append]; rfl
end Go.Proofs.YthgackidonocpaaGreat
namespace Go.Proofs.YthgackidonocpaaGreat
open Go.RowKit
inductive Pl where
  | fin (r : List Nat)
  | fork (p : List Nat) (i : Nat) (a : Pl) (j : Nat) (b : Pl)
def Pl.n : Pl → Nat
  | .fin r => r.length
  | .fork p _ a _ _ => a.n + 1 + p.length
section
variable (P : Program) (F : Frm) (md : Region.Mode) (ops : Array Oper) (N : Nat) (cls : Nat → Nat)
def plB : Pl → Array Bool → Bool
  | .fin r, listed => ordB md ops cls r listed
  | .fork p i a j b, listed => ordP md ops cls p listed && decide (Region.ready md ops (lst p listed) = [i, j]) && plB a ((lst p listed).setIfInBounds i true) && plB b ((lst p listed).setIfInBounds j true) && Nat.beq a.n b.n
def WT (Kf : (Nat → AV) → List Blk → Prop) : Pl → (Nat → AV) → List Blk → Prop
  | .fin r, τ, hp => WO P F ops N cls Kf r τ hp
  | .fork p i a j b, τ, hp => WO P F ops N cls (fun τ hp => WO P F ops N cls (WT Kf a) [i] τ hp ∧ WO P F ops N cls (WT Kf b) [j] τ hp) p τ hp
end
section
variable {P : Program} {F : Frm} {md : Region.Mode} {ops : Array Oper} {N : Nat} {cls : Nat → Nat} {Kf : (Nat → AV) → List Blk → Prop} {τ : Nat → AV} {hp : List Blk}
theorem wt_fin {r : List Nat} (h : WO P F ops N cls Kf r τ hp) : WT P F ops N cls Kf (.fin r) τ hp := h
theorem wt_fork {p : List Nat} {i j : Nat} {a b : Pl} (h : WO P F ops N cls (fun τ hp => WO P F ops N cls (WT P F ops N cls Kf a) [i] τ hp ∧ WO P F ops N cls (WT P F ops N cls Kf b) [j] τ hp) p τ hp) : WT P F ops N cls Kf (.fork p i a j b) τ hp := h
theorem anyA_pl : ∀ (t : Pl) (listed : Array Bool) (τ : Nat → AV) (hp : List Blk), ClosedL md ops listed → plB md ops cls t listed = true → WT P F ops N cls Kf t τ hp → AnyA P F md ops N cls Kf t.n listed τ hp
  | .fin r, listed, τ, hp, hc, hB, h => anyA_ord r listed τ hp hc hB h
  | .fork p i a j b, listed, τ, hp, hc, hB, h => by
    simp only [plB, Bool.and_eq_true] at hB
    obtain ⟨⟨⟨⟨b1, b2⟩, b3⟩, b4⟩, b5⟩ := hB
    have hcl := ordP_closed p _ hc b1
    have hr := of_decide_eq_true b2
    refine anyA_pre (a.n + 1) p listed τ hp hc b1 (WO.mono p (fun τ' hp' h' => ?_) h)
    refine ⟨fun h0 => (by rw [hr] at h0; cases h0), fun k hk => ?_⟩
    have hk' := hk
    rw [hr] at hk'
    simp only [List.mem_cons, List.not_mem_nil, or_false] at hk'
    rcases hk' with rfl | rfl
    · exact opA_mono (fun τ' hp' h' => anyA_pl a _ τ' hp' (hcl.set hk) b3 h') h'.1
    · rw [Nat.eq_of_beq_eq_true b5]; exact opA_mono (fun τ' hp' h' => anyA_pl b _ τ' hp' (hcl.set hk) b4 h') h'.2
end
section
variable {P : Program} {F : Frm} {τ : Nat → AV} {hp : List Blk} {N : Nat} {Q : Exit → AS → Prop} {id : Nat} {l : List Oper}
theorem ac_drawT (c : List Nat) (t : Pl) (hm : P.follows .mixedOrders = true) (hB : (plB .any l.toArray (clsOf c) t (Array.replicate l.toArray.size false) && Nat.beq t.n l.length) = true)
    (h : WT P F l.toArray N (clsOf c) (fun τ' hp' => Q .normal ⟨τ', hp', N⟩) t τ hp) : AC P F (.region id l.toArray true) Q ⟨τ, hp, N⟩ := by
  refine ⟨fun M a w hr => ?_⟩
  simp only [Bool.and_eq_true] at hB
  have hlen := Nat.eq_of_beq_eq_true hB.2
  have hrd : Rep F M ⟨τ, hp, N⟩ a { w with drawn := w.drawn + 1 } := ⟨hr.tmps, hr.size, hr.defers, hr.heap.drew⟩
  have hcl : ClosedL .any l.toArray (Array.replicate l.toArray.size false) := fun j oj _ hl => by rw [getD_replicate_false] at hl; cases hl
  refine wp_region_any hm ?_
  have H := wpAny_of_A (Q := fun e a' w' => ∃ M' σ', Q e σ' ∧ Rep F M' σ' a' w') (fun M τ hp a w hk hr => ⟨M, _, hk, hr⟩) _ _ _ _ _ _ _ hrd (anyA_pl t _ τ hp hcl hB.1 h)
  rwa [hlen, show l.length = l.toArray.size by simp] at H
end
def bfn (f : FuncId) (b off : Nat) : Value := .func (.func f) #[.pointer (some ⟨b, off, none⟩)] #[]
section
variable {P : Program} {F : Frm} {L : Tab} {d : Option Tmp} {ty : TypeId} {pos : String} {aft : Array Edge} {g : Option (Nat × Bool)} {ρ : Operand → AV} {hp : List Blk} {K : AV → List Blk → Prop}
theorem zMf {f : FuncId} {x : Operand} {i b off : Nat} (h : K (.own 0 (bfn f b off)) hp) (hx : ρ x = .ptr i b off := by exact rfl) : LO P F ⟨d, .makeFunc (.func f) #[x] #[], ty, pos, aft, g⟩ ρ hp K := by
  refine LO.same (fun M e w he hh => ?_) h
  have h1 := he x (by simp [Op.operands])
  rw [hx] at h1
  simp only [RA] at h1
  refine ⟨bfn f b off, by simp [execOp, Instr.makeFunc, h1, bfn], ?_⟩
  simp only [RA]
  exact ⟨trivial, rfl⟩
theorem run_callb {f : FuncId} (hf : Enters P f) {e : Operand → Value} {y : Operand} {p : Value} (hy : e y = .func (.func f) #[p] #[]) (xs : List Operand) (ats : Array TypeId) (w : World) :
    (execOp e ⟨d, .call { callee := .value y, args := xs.toArray, argTypes := ats }, ty, pos, aft, g⟩).run P w = .ok (.enter f (p :: xs.map e).toArray) w := by
  obtain ⟨fn, h1, h2, h3⟩ := hf
  simp [execOp, resolve, hy, Deferred.ofValue, invoke, callFunc, h1]
  rw [if_neg (by simpa using h2), if_neg (fun e => by rw [e] at h3; cases h3)]
theorem zCallGb {f : FuncId} {y : Operand} {xs : List Operand} {ats : Array TypeId} {asq : List AV} {hs : List Blk} {R : AV → List Blk → Prop} {j b off : Nat} (sel : List Nat) (hc : AG P f asq hs R)
    (h : ∀ r hs2, R r hs2 → ∃ r' hp', Re r r' ∧ Nat.ble sel.length hs2.length = true ∧ evl (putB hp sel hs2) = some hp' ∧ K r' hp') (hy : ρ y = .own j (bfn f b off) := by exact rfl)
    (hx : Res (.ptr 0 b off :: xs.map ρ) asq := by repeat (first | exact res_nil | apply res_cons | exact re_own | exact re_ptr | exact re_refl | apply re_cls | exact rzs_nil | apply rzs_cons | exact rz_c | exact rz_nil rfl | apply rz_agg | apply rz_fn | apply rz_tup)) (hsl : selB hp sel = some hs := by exact rfl) (hf : freshB sel = true := by exact rfl) :
    LO P F ⟨d, .call { callee := .value y, args := xs.toArray, argTypes := ats }, ty, pos, aft, g⟩ ρ hp K := by
  refine ⟨fun M e w he hh => ?_⟩
  obtain ⟨hE, hcall⟩ := hc
  have h1 := he y (by simp [Op.operands, Call.operands])
  rw [hy] at h1
  simp only [RA] at h1
  rw [run_callb hE h1.1]
  have hav : RAs M (.ptr 0 b off :: xs.map ρ) (.pointer (some ⟨b, off, none⟩) :: xs.map e) := by
    simp only [RAs]
    exact ⟨_, _, rfl, by simp only [RA], ev_all xs (fun x hx => he x (by simp [Op.operands, Call.operands, hx]))⟩
  refine (hcall (subF M hs w) M w _ (heap_sel hh hsl hf) (hx M _ hav)).mono ?_
  rintro e' w' ⟨v, r, hs2, M', rfl, hR, hM, hh2, hr⟩
  obtain ⟨r', hp', hre, hl, hev, hK⟩ := h r hs2 hR
  exact ⟨v, rfl, M', r', _, hK, hM.to (sub_may hh hsl), by rw [evl_eq hev]; exact heap_put hh hsl (Nat.le_of_ble_eq_true hl) hh2, hre M' v hr⟩
/-- parts of rows of bytes -/
theorem zPlb {t el : TypeId} {ti te : TI} {x y : Operand} {l : List UInt8} {k : IntKind} {z : Int} (m : Nat) (hm : m ≤ l.length) (hK : K (.c (bytRow (l.drop m))) hp) (hz : z = (m : Int) := by exact rfl) (hL : TabOk P L := by exact tok) (hx : ρ x = .c (bytRow l) := by exact rfl) (hy : ρ y = .c (.lit (.int k z)) := by exact rfl) (ht : L.look t = some ti := by exact rfl) (hd : ti.d = .slice el := by exact rfl) (hte : L.look el = some te := by exact rfl) (hsz : te.size = 1 := by exact rfl) :
    LO P F ⟨d, .slice t x (some y) none none, ty, pos, aft, g⟩ ρ hp K := by
  refine lo_part_lo hL m hm hx hy hz ht hd hte hsz ?_
  have h : (byts l).drop (m * 1) = byts (l.drop m) := by simp [byts, List.map_drop]
  rw [h]
  have h3 : (byts (l.drop m)).take (l.length - m) = byts (l.drop m) := List.take_of_length_le (by simp [byts_len])
  simpa [bytRow, h3] using hK
theorem zPhb {t el : TypeId} {ti te : TI} {x y : Operand} {l : List UInt8} {k : IntKind} {z : Int} (m : Nat) (hm : m ≤ l.length) (hK : K (.c (bytRow (l.take m))) hp) (hz : z = (m : Int) := by exact rfl) (hL : TabOk P L := by exact tok) (hx : ρ x = .c (bytRow l) := by exact rfl) (hy : ρ y = .c (.lit (.int k z)) := by exact rfl) (ht : L.look t = some ti := by exact rfl) (hd : ti.d = .slice el := by exact rfl) (hte : L.look el = some te := by exact rfl) (hsz : te.size = 1 := by exact rfl) :
    LO P F ⟨d, .slice t x none (some y) none, ty, pos, aft, g⟩ ρ hp K := by
  refine lo_part_hi hL m hm hx hy hz ht hd hte hsz ?_
  have h : (byts l).take (m * 1) = byts (l.take m) := by simp [byts, List.map_take]
  rw [h]
  have h2 : (l.take m).length = m := by simp; omega
  simpa [bytRow, h2, Nat.min_eq_left hm] using hK
end
theorem AG.re {P : Program} {f : FuncId} {asq : List AV} {hs : List Blk} {R R' : AV → List Blk → Prop} (h : AG P f asq hs R) (hi : ∀ r hs, R r hs → ∃ r', Re r r' ∧ R' r' hs) : AG P f asq hs R' :=
  ⟨h.1, fun F M w vs hM hv => (h.2 F M w vs hM hv).mono fun _ _ ⟨v, r, hs', M', h1, h2, h3, h4, h5⟩ => let ⟨r', h6, h7⟩ := hi r hs' h2; ⟨v, r', hs', M', h1, h7, h3, h4, h6 M' v h5⟩⟩
end Go.Proofs.YthgackidonocpaaGreat
namespace Go.Proofs.YthgackidonocpaaGreat
open Go.RowKit
def rdB (b : Nat) (s : RS) : Blk := .box b 133 [.c (bytRow s.l), .c (.lit (.bool s.bad)), .c (.lit (.int .i64 (s.dep : Int)))]
/-- what a function of the reader gives -/
def Gives (b : Nat) (t : T) (s : RS) (r : AV) (hs : List Blk) : Prop := r = .c t ∧ hs = [rdB b s]
set_option maxRecDepth 100000 in
set_option maxHeartbeats 2000000 in
theorem byte_ag (b : Nat) (s : RS) : AG Tryz.prog 109 [.ptr 0 b 0] [rdB b s] (Gives b (.lit (.int .i64 ((rByte s).1 : Int))) (rByte s).2) := by
  obtain ⟨l, bad, d⟩ := s
  refine ag_enter 1 tok Tryz.func109 Tryz.ntmps109 Tryz.results109 rfl (by kernel_rfl) rfl fun F => ?_
  cases l with
  | nil =>
    repeat (first | refine gG ?_ | refine zN1 (fun hlen => ?_) | refine zN2 (fun hlen => ?_))
    refine zG ?_
    exact ⟨rfl, rfl⟩
  | cons a r =>
    have d1 : decide ((((a :: r).length : Nat) : Int) = 0) = false := by simp; omega
    have hw : IntKind.i64.wrap (a.toNat : Int) = (a.toNat : Int) := by rw [IntWalk.i64_in _ (by have := a.toNat_lt; omega)]
    repeat (first | refine gG ?_ | refine zN1 (fun hlen => ?_) | refine zN2 (fun hlen => ?_))
    refine zIx 0 (show 0 < (a :: r).length by simp) ?_
    repeat (first | refine gG ?_ | refine zN1 (fun hlen => ?_) | refine zN2 (fun hlen => ?_))
    refine zPlb (l := a :: r) 1 (by simp) ?_
    repeat (first | refine gG ?_ | refine zN1 (fun hlen => ?_) | refine zN2 (fun hlen => ?_))
    refine lo_conv tok rfl rfl rfl rfl hw ?_
    repeat (first | refine gG ?_ | refine zN1 (fun hlen => ?_) | refine zN2 (fun hlen => ?_))
    refine zG ?_
    exact ⟨rfl, rfl⟩
theorem and127 : ∀ x : Nat, x < 256 → x &&& 127 = x % 128 := by decide +kernel
theorem p128 (i : Nat) : 2 ^ (7 * i) = 128 ^ i := by rw [Nat.pow_mul]
theorem shl_i {c i : Nat} (hi : i ≤ 9) (hc : c * 128 ^ i < 2 ^ 64) : IntKind.u64.wrap ((c : Int) * 2 ^ (min ((((7 * i : Nat) : Nat) : Int)).toNat IntKind.u64.bits)) = ((c * 128 ^ i : Nat) : Int) := by
  have h1 : min ((((7 * i : Nat) : Nat) : Int)).toNat IntKind.u64.bits = 7 * i := by
    have : IntKind.u64.bits = 64 := rfl
    rw [this]
    omega
  rw [h1, wrap_u64]
  have h2 : (c : Int) * 2 ^ (7 * i) = ((c * 128 ^ i : Nat) : Int) := by
    rw [← p128]
    simp
  rw [h2]
  omega
theorem or_i {u c i : Nat} (hu : u < 128 ^ i) (hc : c * 128 ^ i < 2 ^ 64) (hu' : u < 2 ^ 64) (hs : u + c * 128 ^ i < 2 ^ 64) : IntKind.u64.wrap ((((u : Int) % 2 ^ IntKind.u64.bits).toNat ||| (((c * 128 ^ i : Nat) : Int) % 2 ^ IntKind.u64.bits).toNat : Nat) : Int) = ((u + c * 128 ^ i : Nat) : Int) := by
  have e : (2 : Int) ^ IntKind.u64.bits = 18446744073709551616 := rfl
  have h1 : ((u : Int) % 2 ^ IntKind.u64.bits).toNat = u := by rw [e]; omega
  have h2 : (((c * 128 ^ i : Nat) : Int) % 2 ^ IntKind.u64.bits).toNat = c * 128 ^ i := by rw [e]; omega
  rw [h1, h2]
  have h3 : u ||| c * 128 ^ i = u + c * 128 ^ i := by
    rw [← p128] at hu ⊢
    rw [← Nat.shiftLeft_eq, Nat.or_comm, ← Nat.shiftLeft_add_eq_or_of_lt hu, Nat.add_comm]
  rw [h3, wrap_u64]
  omega
theorem and_i {c : Nat} (hc : c < 256) (h : 128 ≤ c) : IntKind.u64.wrap ((((c : Int) % 2 ^ IntKind.u64.bits).toNat &&& ((127 : Int) % 2 ^ IntKind.u64.bits).toNat : Nat) : Int) = ((c - 128 : Nat) : Int) := by
  have e : (2 : Int) ^ IntKind.u64.bits = 18446744073709551616 := rfl
  have h1 : ((c : Int) % 2 ^ IntKind.u64.bits).toNat = c := by rw [e]; omega
  have h2 : ((127 : Int) % 2 ^ IntKind.u64.bits).toNat = 127 := by rw [e]; rfl
  rw [h1, h2, and127 c hc, wrap_u64]
  omega
theorem rByte_lt (s : RS) : (rByte s).1 < 256 := by
  obtain ⟨l, b, d⟩ := s
  cases l with
  | nil => simp [rByte]
  | cons a r => exact a.toNat_lt
theorem pow_i {i : Nat} (h : i ≤ 8) : 128 ^ (i + 1) ≤ 2 ^ 63 := by
  have : 128 ^ (i + 1) ≤ 128 ^ 9 := Nat.pow_le_pow_right (by omega) (by omega)
  have e : 128 ^ 9 = 2 ^ 63 := rfl
  omega
theorem fin_lt {c i : Nat} (hi : i ≤ 9) (hc : c < 128) (h9 : i = 9 → c ≤ 1) : c * 128 ^ i < 2 ^ 64 := by
  by_cases h : i = 9
  · subst h
    have := h9 rfl
    have e : 128 ^ 9 = 2 ^ 63 := rfl
    rw [e]; omega
  · have h1 := pow_i (i := i) (by omega)
    rw [Nat.pow_succ] at h1
    have : c * 128 ^ i ≤ 128 * 128 ^ i := Nat.mul_le_mul_right _ (by omega)
    omega
theorem mid_lt {c u i : Nat} (hi : i ≤ 8) (hu : u < 128 ^ i) (hc : c < 128) : c * 128 ^ i < 2 ^ 64 ∧ u < 2 ^ 64 ∧ u + c * 128 ^ i < 2 ^ 64 ∧ u + c * 128 ^ i < 128 ^ (i + 1) := by
  have h1 := pow_i hi
  rw [Nat.pow_succ] at h1 ⊢
  have : c * 128 ^ i ≤ 127 * 128 ^ i := Nat.mul_le_mul_right _ (by omega)
  omega
theorem end_lt {c u i : Nat} (hi : i ≤ 9) (hu : u < 128 ^ i) (hc : c * 128 ^ i < 2 ^ 64) : u < 2 ^ 64 ∧ u + c * 128 ^ i < 2 ^ 64 := by
  have h1 : 128 ^ i ≤ 128 ^ 9 := Nat.pow_le_pow_right (by omega) hi
  have e : 128 ^ 9 = 2 ^ 63 := rfl
  refine ⟨by omega, ?_⟩
  have h2 : (2 : Nat) ^ 64 = 2 ^ (64 - 7 * i) * 128 ^ i := by rw [← p128, ← Nat.pow_add, show 64 - 7 * i + 7 * i = 64 by omega]
  rw [h2] at hc ⊢
  have h3 : c < 2 ^ (64 - 7 * i) := Nat.lt_of_mul_lt_mul_right hc
  calc u + c * 128 ^ i < 128 ^ i + c * 128 ^ i := by omega
    _ = (c + 1) * 128 ^ i := by rw [Nat.add_mul]; omega
    _ ≤ _ := Nat.mul_le_mul_right _ h3
set_option maxRecDepth 100000 in
set_option maxHeartbeats 4000000 in
theorem unsR_ag (b : Nat) (s : RS) : AG Tryz.prog 102 [.ptr 0 b 0] [rdB b s] (Gives b (.lit (.int .u64 ((rU s).1 : Int))) (rU s).2) := by
  refine ag_enter 1 tok Tryz.func102 Tryz.ntmps102 Tryz.results102 rfl (by kernel_rfl) rfl fun F => ?_
  repeat (first | refine gG ?_)
  refine x_loop [2, 3, 4, 5, 6, 7, 8, 9, 10, 11, 12, 13, 14, 15, 16, 17, 18, 19, 20, 21, 22, 23, 24, 25, 26, 27, 28, 29, 30, 31, 32, 33, 34, 35, 36, 37, 38, 39, 40, 41, 42, 43, 44, 45, 46, 47, 48, 49, 50] (fun y : Nat × Nat × RS => [(4, .c (.lit (.int .i64 ((7 * y.1 : Nat) : Int)))), (3, .c (.lit (.int .u64 (y.2.1 : Int))))]) (fun y => [rdB b y.2.2])
    (fun y => y.1 ≤ 10 ∧ y.2.1 < 128 ^ y.1 ∧ rUns (10 - y.1) y.1 y.2.1 y.2.2 = rU s) (fun y => 10 - y.1) (0, 0, s) ⟨by simp, by simp, rfl⟩ ⟨rfl, rfl, trivial⟩ rfl ?_
  rintro ⟨i, u, s'⟩ ⟨hi, hu, hinv⟩
  dsimp only at hi hu hinv ⊢
  repeat (first | refine gG ?_)
  refine x_cond rfl (fun h => ?_) (fun h => ?_)
  · have hi9 : i ≤ 9 := by have : ((7 * i : Nat) : Int) < 64 := of_decide_eq_true h
                           omega
    rw [show 10 - i = (9 - i) + 1 by omega, rUns] at hinv
    have hc := byte_ag b s'
    have hlt := rByte_lt s'
    generalize hcb : rByte s' = p at *
    obtain ⟨c, s1⟩ := p
    dsimp only at hinv hc hlt
    have q2 : decide (((7 * i : Nat) : Int) = 63) = decide (i = 9) := by
      by_cases h : i = 9
      · subst h; rfl
      · rw [decide_eq_false h, decide_eq_false (by omega)]
    have q3 : decide ((1 : Int) < (c : Int)) = decide (1 < c) := by
      by_cases h : 1 < c
      · rw [decide_eq_true h, decide_eq_true (by omega)]
      · rw [decide_eq_false h, decide_eq_false (by omega)]
    have q4 : decide ((0 : Int) < ((7 * i : Nat) : Int)) = decide (0 < i) := by
      by_cases h : 0 < i
      · rw [decide_eq_true h, decide_eq_true (by omega)]
      · rw [decide_eq_false h, decide_eq_false (by omega)]
    have q5 : decide ((c : Int) = 0) = decide (c = 0) := by
      by_cases h : c = 0
      · subst h; rfl
      · rw [decide_eq_false h, decide_eq_false (by omega)]
    repeat (first | refine gG ?_)
    refine zCallG [0] hc ?_
    rintro _ _ ⟨rfl, rfl⟩
    refine ⟨_, _, re_refl, rfl, rfl, ?_⟩
    repeat (first | refine gG ?_)
    refine lo_conv tok rfl rfl rfl rfl (r := (c : Int)) (by rw [wrap_u64]; omega) ?_
    obtain ⟨l1, bad1, dp1⟩ := s1
    dsimp only at hinv
    cases bad1
    rotate_left
    · rw [if_pos (by simp)] at hinv
      repeat (first | refine gG ?_)
      refine zG ?_
      rw [← hinv]
      exact ⟨rfl, rfl⟩
    cases b2 : decide (i = 9)
    · have e2 := q2.trans b2
      cases b4 : decide (0 < i)
      · have e4 := q4.trans b4
        rw [if_neg (by simp [b2, b4])] at hinv
        have hcc : c * 128 ^ i < 2 ^ 64 ∨ 128 ≤ c := by
          by_cases h128 : c < 128
          · left; exact fin_lt hi9 h128 (by simp only [decide_eq_false_iff_not] at b2 b4; omega)
          · right; omega
        cases d6 : decide ((c : Int) < 128)
        · have h6 : ¬ c < 128 := by have := of_decide_eq_false d6; omega
          have hi8 : i ≤ 8 := by
            simp only [decide_eq_false_iff_not] at b2 b4
            omega
          obtain ⟨k1, k2, k3⟩ := mid_lt hi8 hu (show c - 128 < 128 by omega)
          rw [if_neg h6] at hinv
          repeat (first | refine gG ?_)
          refine lo_and rfl rfl (and_i hlt (by omega)) ?_
          repeat (first | refine gG ?_)
          refine lo_shl rfl rfl (by omega) (shl_i hi9 k1) ?_
          repeat (first | refine gG ?_)
          refine lo_or rfl rfl (or_i hu k1 k2 k3.1) ?_
          repeat (first | refine gG ?_)
          refine lo_add rfl rfl (r := ((7 * (i + 1) : Nat) : Int)) (by rw [IntWalk.i64_in _ (by omega)]; omega) ?_
          repeat (first | refine gG ?_)
          exact ⟨(i + 1, u + (c - 128) * 128 ^ i, ⟨l1, false, dp1⟩), ⟨by simp only; omega, k3.2, by simp only; rw [show 10 - (i + 1) = 9 - i by omega]; exact hinv⟩, by simp only; omega, x_wkd 1 ⟨rfl, rfl, trivial⟩ rfl (by repeat (first | exact ag_refl | refine ag_upd rfl ?_ | refine ag_at rfl rfl ?_))⟩
        · have h6 : c < 128 := by have := of_decide_eq_true d6; omega
          have hc2 : c * 128 ^ i < 2 ^ 64 := by rcases hcc with h | h; exact h; omega
          obtain ⟨k2, k3⟩ := end_lt hi9 hu hc2
          rw [if_pos h6] at hinv
          repeat (first | refine gG ?_)
          refine lo_shl rfl rfl (by omega) (shl_i hi9 hc2) ?_
          repeat (first | refine gG ?_)
          refine lo_or rfl rfl (or_i hu hc2 k2 k3) ?_
          repeat (first | refine gG ?_)
          refine zG ?_
          rw [← hinv]
          exact ⟨rfl, rfl⟩
      · have e4 := q4.trans b4
        cases b5 : decide (c = 0)
        · have e5 := q5.trans b5
          rw [if_neg (by simp [b2, b4, b5])] at hinv
          have hcc : c * 128 ^ i < 2 ^ 64 ∨ 128 ≤ c := by
            by_cases h128 : c < 128
            · left; exact fin_lt hi9 h128 (by simp only [decide_eq_true_eq, decide_eq_false_iff_not] at b2 b4 b5; omega)
            · right; omega
          cases d6 : decide ((c : Int) < 128)
          · have h6 : ¬ c < 128 := by have := of_decide_eq_false d6; omega
            have hi8 : i ≤ 8 := by
              simp only [decide_eq_true_eq, decide_eq_false_iff_not] at b2 b4 b5
              omega
            obtain ⟨k1, k2, k3⟩ := mid_lt hi8 hu (show c - 128 < 128 by omega)
            rw [if_neg h6] at hinv
            repeat (first | refine gG ?_)
            refine lo_and rfl rfl (and_i hlt (by omega)) ?_
            repeat (first | refine gG ?_)
            refine lo_shl rfl rfl (by omega) (shl_i hi9 k1) ?_
            repeat (first | refine gG ?_)
            refine lo_or rfl rfl (or_i hu k1 k2 k3.1) ?_
            repeat (first | refine gG ?_)
            refine lo_add rfl rfl (r := ((7 * (i + 1) : Nat) : Int)) (by rw [IntWalk.i64_in _ (by omega)]; omega) ?_
            repeat (first | refine gG ?_)
            exact ⟨(i + 1, u + (c - 128) * 128 ^ i, ⟨l1, false, dp1⟩), ⟨by simp only; omega, k3.2, by simp only; rw [show 10 - (i + 1) = 9 - i by omega]; exact hinv⟩, by simp only; omega, x_wkd 1 ⟨rfl, rfl, trivial⟩ rfl (by repeat (first | exact ag_refl | refine ag_upd rfl ?_ | refine ag_at rfl rfl ?_))⟩
          · have h6 : c < 128 := by have := of_decide_eq_true d6; omega
            have hc2 : c * 128 ^ i < 2 ^ 64 := by rcases hcc with h | h; exact h; omega
            obtain ⟨k2, k3⟩ := end_lt hi9 hu hc2
            rw [if_pos h6] at hinv
            repeat (first | refine gG ?_)
            refine lo_shl rfl rfl (by omega) (shl_i hi9 hc2) ?_
            repeat (first | refine gG ?_)
            refine lo_or rfl rfl (or_i hu hc2 k2 k3) ?_
            repeat (first | refine gG ?_)
            refine zG ?_
            rw [← hinv]
            exact ⟨rfl, rfl⟩
        · have e5 := q5.trans b5
          rw [if_pos (by simp [b2, b4, b5])] at hinv
          repeat (first | refine gG ?_)
          refine zG ?_
          rw [← hinv]
          exact ⟨rfl, rfl⟩
    · have e2 := q2.trans b2
      cases b3 : decide (1 < c)
      · have e3 := q3.trans b3
        cases b4 : decide (0 < i)
        · have e4 := q4.trans b4
          rw [if_neg (by simp [b2, b3, b4])] at hinv
          have hcc : c * 128 ^ i < 2 ^ 64 ∨ 128 ≤ c := by
            by_cases h128 : c < 128
            · left; exact fin_lt hi9 h128 (by simp only [decide_eq_true_eq, decide_eq_false_iff_not] at b2 b3 b4; omega)
            · right; omega
          cases d6 : decide ((c : Int) < 128)
          · have h6 : ¬ c < 128 := by have := of_decide_eq_false d6; omega
            have hi8 : i ≤ 8 := by
              simp only [decide_eq_true_eq, decide_eq_false_iff_not] at b2 b3 b4
              omega
            obtain ⟨k1, k2, k3⟩ := mid_lt hi8 hu (show c - 128 < 128 by omega)
            rw [if_neg h6] at hinv
            repeat (first | refine gG ?_)
            refine lo_and rfl rfl (and_i hlt (by omega)) ?_
            repeat (first | refine gG ?_)
            refine lo_shl rfl rfl (by omega) (shl_i hi9 k1) ?_
            repeat (first | refine gG ?_)
            refine lo_or rfl rfl (or_i hu k1 k2 k3.1) ?_
            repeat (first | refine gG ?_)
            refine lo_add rfl rfl (r := ((7 * (i + 1) : Nat) : Int)) (by rw [IntWalk.i64_in _ (by omega)]; omega) ?_
            repeat (first | refine gG ?_)
            exact ⟨(i + 1, u + (c - 128) * 128 ^ i, ⟨l1, false, dp1⟩), ⟨by simp only; omega, k3.2, by simp only; rw [show 10 - (i + 1) = 9 - i by omega]; exact hinv⟩, by simp only; omega, x_wkd 1 ⟨rfl, rfl, trivial⟩ rfl (by repeat (first | exact ag_refl | refine ag_upd rfl ?_ | refine ag_at rfl rfl ?_))⟩
          · have h6 : c < 128 := by have := of_decide_eq_true d6; omega
            have hc2 : c * 128 ^ i < 2 ^ 64 := by rcases hcc with h | h; exact h; omega
            obtain ⟨k2, k3⟩ := end_lt hi9 hu hc2
            rw [if_pos h6] at hinv
            repeat (first | refine gG ?_)
            refine lo_shl rfl rfl (by omega) (shl_i hi9 hc2) ?_
            repeat (first | refine gG ?_)
            refine lo_or rfl rfl (or_i hu hc2 k2 k3) ?_
            repeat (first | refine gG ?_)
            refine zG ?_
            rw [← hinv]
            exact ⟨rfl, rfl⟩
        · have e4 := q4.trans b4
          cases b5 : decide (c = 0)
          · have e5 := q5.trans b5
            rw [if_neg (by simp [b2, b3, b4, b5])] at hinv
            have hcc : c * 128 ^ i < 2 ^ 64 ∨ 128 ≤ c := by
              by_cases h128 : c < 128
              · left; exact fin_lt hi9 h128 (by simp only [decide_eq_true_eq, decide_eq_false_iff_not] at b2 b3 b4 b5; omega)
              · right; omega
            cases d6 : decide ((c : Int) < 128)
            · have h6 : ¬ c < 128 := by have := of_decide_eq_false d6; omega
              have hi8 : i ≤ 8 := by
                simp only [decide_eq_true_eq, decide_eq_false_iff_not] at b2 b3 b4 b5
                omega
              obtain ⟨k1, k2, k3⟩ := mid_lt hi8 hu (show c - 128 < 128 by omega)
              rw [if_neg h6] at hinv
              repeat (first | refine gG ?_)
              refine lo_and rfl rfl (and_i hlt (by omega)) ?_
              repeat (first | refine gG ?_)
              refine lo_shl rfl rfl (by omega) (shl_i hi9 k1) ?_
              repeat (first | refine gG ?_)
              refine lo_or rfl rfl (or_i hu k1 k2 k3.1) ?_
              repeat (first | refine gG ?_)
              refine lo_add rfl rfl (r := ((7 * (i + 1) : Nat) : Int)) (by rw [IntWalk.i64_in _ (by omega)]; omega) ?_
              repeat (first | refine gG ?_)
              exact ⟨(i + 1, u + (c - 128) * 128 ^ i, ⟨l1, false, dp1⟩), ⟨by simp only; omega, k3.2, by simp only; rw [show 10 - (i + 1) = 9 - i by omega]; exact hinv⟩, by simp only; omega, x_wkd 1 ⟨rfl, rfl, trivial⟩ rfl (by repeat (first | exact ag_refl | refine ag_upd rfl ?_ | refine ag_at rfl rfl ?_))⟩
            · have h6 : c < 128 := by have := of_decide_eq_true d6; omega
              have hc2 : c * 128 ^ i < 2 ^ 64 := by rcases hcc with h | h; exact h; omega
              obtain ⟨k2, k3⟩ := end_lt hi9 hu hc2
              rw [if_pos h6] at hinv
              repeat (first | refine gG ?_)
              refine lo_shl rfl rfl (by omega) (shl_i hi9 hc2) ?_
              repeat (first | refine gG ?_)
              refine lo_or rfl rfl (or_i hu hc2 k2 k3) ?_
              repeat (first | refine gG ?_)
              refine zG ?_
              rw [← hinv]
              exact ⟨rfl, rfl⟩
          · have e5 := q5.trans b5
            rw [if_pos (by simp [b2, b3, b4, b5])] at hinv
            repeat (first | refine gG ?_)
            refine zG ?_
            rw [← hinv]
            exact ⟨rfl, rfl⟩
      · have e3 := q3.trans b3
        rw [if_pos (by simp [b2, b3])] at hinv
        repeat (first | refine gG ?_)
        refine zG ?_
        rw [← hinv]
        exact ⟨rfl, rfl⟩
  · have hi10 : i = 10 := by have : ¬ ((7 * i : Nat) : Int) < 64 := of_decide_eq_false h
                             omega
    subst hi10
    repeat (first | refine gG ?_)
    refine zG ?_
    rw [← hinv]
    exact ⟨rfl, rfl⟩
set_option maxRecDepth 100000 in
set_option maxHeartbeats 2000000 in
theorem natR_ag (b : Nat) (s : RS) : AG Tryz.prog 82 [.ptr 0 b 0] [rdB b s] (Gives b (.lit (.int .i64 ((rNat s).1 : Int))) (rNat s).2) := by
  have hc := unsR_ag b s
  unfold rNat
  generalize rU s = p at *
  obtain ⟨u, l, bad, d⟩ := p
  dsimp only at hc ⊢
  refine ag_enter 1 tok Tryz.func82 Tryz.ntmps82 Tryz.results82 rfl (by kernel_rfl) rfl fun F => ?_
  repeat (first | refine gG ?_)
  refine zCallG [0] hc ?_
  rintro _ _ ⟨rfl, rfl⟩
  refine ⟨_, _, re_refl, rfl, rfl, ?_⟩
  cases d1 : decide ((9223372036854775807 : Int) < (u : Int))
  · have h1 : ¬ 9223372036854775807 < u := by have := of_decide_eq_false d1; omega
    rw [if_neg h1]
    repeat (first | refine gG ?_)
    refine lo_conv tok rfl rfl rfl rfl (r := (u : Int)) (by rw [IntWalk.i64_in _ (by omega)]) ?_
    repeat (first | refine gG ?_)
    refine zG ?_
    exact ⟨rfl, rfl⟩
  · have h1 : 9223372036854775807 < u := by have := of_decide_eq_true d1; omega
    rw [if_pos h1]
    repeat (first | refine gG ?_)
    refine zG ?_
    exact ⟨rfl, rfl⟩
theorem rU_lt (s : RS) : (rU s).1 < 2 ^ 64 := by
  cases hb : (rU s).2.bad with
  | false => exact (rU_ok (s := s) (s' := (rU s).2) (x := (rU s).1) rfl hb).2
  | true =>
    have : (rU s).1 = 0 := by
      have key : ∀ (k i u : Nat) (s : RS), (rUns k i u s).2.bad = true → (rUns k i u s).1 = 0 := by
        intro k
        induction k with
        | zero => intro i u s _; rfl
        | succ k ih =>
          intro i u s h
          rw [rUns] at h ⊢
          split
          · rfl
          · rename_i hc
            rw [if_neg hc] at h
            simp only [Bool.or_eq_true, not_or, Bool.not_eq_true] at hc
            split
            · rename_i h2
              rw [if_pos h2] at h
              dsimp only at h
              rw [hc.1.1] at h; cases h
            · rename_i h2
              rw [if_neg h2] at h
              exact ih _ _ _ h
      exact key 10 0 0 s hb
    omega
theorem and1 {u : Nat} (hu : u < 2 ^ 64) : IntKind.u64.wrap ((((u : Int) % 2 ^ IntKind.u64.bits).toNat &&& ((1 : Int) % 2 ^ IntKind.u64.bits).toNat : Nat) : Int) = ((u % 2 : Nat) : Int) := by
  have e : (2 : Int) ^ IntKind.u64.bits = 18446744073709551616 := rfl
  have h1 : ((u : Int) % 2 ^ IntKind.u64.bits).toNat = u := by rw [e]; omega
  have h2 : ((1 : Int) % 2 ^ IntKind.u64.bits).toNat = 1 := by rw [e]; rfl
  rw [h1, h2, Nat.and_one_is_mod, wrap_u64]
  omega
theorem wrap_i64 (a : Int) : IntKind.i64.wrap a = if a % 18446744073709551616 < 9223372036854775808 then a % 18446744073709551616 else a % 18446744073709551616 - 18446744073709551616 := by
  simp [IntKind.wrap, IntKind.bits, IntKind.signed]
  split <;> split <;> omega
theorem xor_dz {u : Nat} (hu : u < 2 ^ 64) : IntKind.i64.wrap (((((u / 2 : Nat) : Int) % 2 ^ IntKind.i64.bits).toNat ^^^ ((-((u % 2 : Nat) : Int)) % 2 ^ IntKind.i64.bits).toNat : Nat) : Int) = dz u := by
  have e : (2 : Int) ^ IntKind.i64.bits = 18446744073709551616 := rfl
  have h1 : (((u / 2 : Nat) : Int) % 2 ^ IntKind.i64.bits).toNat = u / 2 := by rw [e]; omega
  rw [h1, e]
  unfold dz
  by_cases h : u % 2 = 0
  · rw [if_pos h, h]
    have h2 : ((-((0 : Nat) : Int)) % 18446744073709551616).toNat = 0 := rfl
    rw [h2, Nat.xor_zero, wrap_i64, if_pos (by omega)]
    omega
  · rw [if_neg h, show u % 2 = 1 by omega]
    have h2 : ((-((1 : Nat) : Int)) % 18446744073709551616).toNat = 2 ^ 64 - 1 := rfl
    rw [h2, xor_ones (by omega), wrap_i64, if_neg (by omega)]
    omega
set_option maxRecDepth 100000 in
set_option maxHeartbeats 2000000 in
theorem intR_ag (b : Nat) (s : RS) : AG Tryz.prog 86 [.ptr 0 b 0] [rdB b s] (Gives b (.lit (.int .i64 (rInt s).1)) (rInt s).2) := by
  have hc := unsR_ag b s
  have hlt := rU_lt s
  unfold rInt
  generalize rU s = p at *
  obtain ⟨u, l, bad, d⟩ := p
  dsimp only at hc hlt ⊢
  refine ag_enter 1 tok Tryz.func86 Tryz.ntmps86 Tryz.results86 rfl (by kernel_rfl) rfl fun F => ?_
  repeat (first | refine gG ?_)
  refine zCallG [0] hc ?_
  rintro _ _ ⟨rfl, rfl⟩
  refine ⟨_, _, re_refl, rfl, rfl, ?_⟩
  repeat (first | refine gG ?_)
  refine lo_shr rfl rfl (by omega) (r := ((u / 2 : Nat) : Int)) (by
    have : (2 : Int) ^ (min (1 : Int).toNat IntKind.u64.bits) = 2 := rfl
    rw [this, Int.fdiv_eq_ediv_of_nonneg _ (by omega)]; omega) ?_
  repeat (first | refine gG ?_)
  refine lo_conv tok rfl rfl rfl rfl (r := ((u / 2 : Nat) : Int)) (by rw [IntWalk.i64_in _ (by omega)]) ?_
  repeat (first | refine gG ?_)
  refine lo_and rfl rfl (and1 hlt) ?_
  repeat (first | refine gG ?_)
  refine lo_conv tok rfl rfl rfl rfl (r := ((u % 2 : Nat) : Int)) (by rw [IntWalk.i64_in _ (by omega)]) ?_
  repeat (first | refine gG ?_)
  refine lo_neg rfl (r := -((u % 2 : Nat) : Int)) (by rw [IntWalk.i64_in _ (by omega)]; omega) ?_
  repeat (first | refine gG ?_)
  refine lo_xor rfl rfl (xor_dz hlt) ?_
  repeat (first | refine gG ?_)
  refine zG ?_
  exact ⟨rfl, rfl⟩
set_option maxRecDepth 100000 in
set_option maxHeartbeats 2000000 in
theorem countR_ag (b : Nat) (s : RS) : AG Tryz.prog 108 [.ptr 0 b 0] [rdB b s] (Gives b (.lit (.int .i64 ((rCount s).1 : Int))) (rCount s).2) := by
  have hc := natR_ag b s
  unfold rCount
  generalize rNat s = p at *
  obtain ⟨u, l, bad, d⟩ := p
  dsimp only at hc ⊢
  refine ag_enter 1 tok Tryz.func108 Tryz.ntmps108 Tryz.results108 rfl (by kernel_rfl) rfl fun F => ?_
  repeat (first | refine gG ?_ | refine zN1 (fun hlen => ?_) | refine zN2 (fun hlen => ?_))
  refine zCallG [0] hc ?_
  rintro _ _ ⟨rfl, rfl⟩
  refine ⟨_, _, re_refl, rfl, rfl, ?_⟩
  cases d1 : decide ((l.length : Int) < (u : Int))
  · have h1 : ¬ l.length < u := by have := of_decide_eq_false d1; omega
    rw [if_neg h1]
    repeat (first | refine gG ?_ | refine zN1 (fun hlen => ?_) | refine zN2 (fun hlen => ?_))
    refine zG ?_
    exact ⟨rfl, rfl⟩
  · have h1 : l.length < u := by have := of_decide_eq_true d1; omega
    rw [if_pos h1]
    repeat (first | refine gG ?_ | refine zN1 (fun hlen => ?_) | refine zN2 (fun hlen => ?_))
    refine zG ?_
    exact ⟨rfl, rfl⟩
set_option maxRecDepth 100000 in
set_option maxHeartbeats 2000000 in
theorem textR_ag (b : Nat) (s : RS) : AG Tryz.prog 103 [.ptr 0 b 0] [rdB b s] (Gives b (.lit (.string (bs (rText s).1))) (rText s).2) := by
  have hc := countR_ag b s
  have hle := rCount_le s
  unfold rText
  generalize rCount s = p at *
  obtain ⟨u, l, bad, d⟩ := p
  dsimp only at hc hle ⊢
  refine ag_enter 1 tok Tryz.func103 Tryz.ntmps103 Tryz.results103 rfl (by kernel_rfl) rfl fun F => ?_
  repeat (first | refine gG ?_)
  refine zCallG [0] hc ?_
  rintro _ _ ⟨rfl, rfl⟩
  refine ⟨_, _, re_refl, rfl, rfl, ?_⟩
  repeat (first | refine gG ?_)
  refine zPhb u hle ?_
  repeat (first | refine gG ?_)
  refine zStr (l.take u) rfl rfl ?_
  repeat (first | refine gG ?_)
  refine zPlb u hle ?_
  repeat (first | refine gG ?_)
  refine zG ?_
  exact ⟨rfl, rfl⟩
set_option maxRecDepth 100000 in
set_option maxHeartbeats 2000000 in
theorem doneR_ag (b : Nat) (s : RS) : AG Tryz.prog 81 [.ptr 0 b 0] [rdB b s] (Gives b (.lit (.bool (!s.bad && decide (s.l = [])))) s) := by
  obtain ⟨l, bad, d⟩ := s
  refine ag_enter 1 tok Tryz.func81 Tryz.ntmps81 Tryz.results81 rfl (by kernel_rfl) rfl fun F => ?_
  have hd : decide ((l.length : Int) = 0) = decide (l = []) := by
    cases l with
    | nil => rfl
    | cons a r => simp; omega
  cases bad
  · repeat (first | refine gG ?_ | refine zN1 (fun hlen => ?_) | refine zN2 (fun hlen => ?_))
    refine zG ?_
    exact ⟨by simp only [outA, hd]; rfl, rfl⟩
  · repeat (first | refine gG ?_ | refine zN1 (fun hlen => ?_) | refine zN2 (fun hlen => ?_))
    refine zG ?_
    exact ⟨rfl, rfl⟩
end Go.Proofs.YthgackidonocpaaGreat
