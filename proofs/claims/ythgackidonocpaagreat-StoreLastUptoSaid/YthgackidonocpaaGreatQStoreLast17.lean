/-
  Texts of this proof, part 17: Tub Tul Txd Ab29.
-/
import Derived.Test.YthgackidonocpaaGreatQStoreLast16
import Derived.Laws.Strings2
import Derived.MapKept
namespace Go.Proofs.YthgackidonocpaaGreat
open Go.RowKit
theorem two_kb (a b : Int) : [T.lit (.int .u8 (IntKind.u8.wrap a)), T.lit (.int .u8 (IntKind.u8.wrap b))] = byts [kb a, kb b] := by rw [← kb_T, ← kb_T]; rfl
theorem four_kb (n : Int) : [T.lit (.int .u8 (IntKind.u8.wrap (n / 16777216))), T.lit (.int .u8 (IntKind.u8.wrap (n / 65536))), T.lit (.int .u8 (IntKind.u8.wrap (n / 256))), T.lit (.int .u8 (IntKind.u8.wrap n))] = byts (numB n 4) := by
  have e : n = n / 256 ^ 0 := by simp
  have e0 : numB n 4 = [kb (n / 16777216), kb (n / 65536), kb (n / 256), kb n] := by
    simp only [numB]
    rw [← e]
    rfl
  rw [e0, ← kb_T, ← kb_T, ← kb_T, ← kb_T]
  rfl
theorem kb_mod (n : Int) : kb (n % 256) = kb n := by unfold kb; rw [Int.emod_emod_of_dvd _ (Int.dvd_refl 256)]
theorem quo_nat (n m : Nat) (hn : n ≤ 9223372036854775807) : IntKind.i64.wrap ((n : Int).tdiv (m : Int)) = (n : Int) / (m : Int) := by
  rw [Int.tdiv_eq_ediv_of_nonneg (by omega)]
  have h1 : (n : Int) / (m : Int) ≤ n := Int.ediv_le_self _ (by omega)
  have h2 : 0 ≤ (n : Int) / (m : Int) := Int.ediv_nonneg (by omega) (by omega)
  rw [IntWalk.i64_in _ (by omega)]
set_option maxRecDepth 100000 in
set_option maxHeartbeats 4000000 in
theorem long_af (x : List UInt8) (hx : x.length ≤ 9000000000000000000) : AF Tryz.prog 33 [.lit (.string (bs x))] (· = .lit (.string (bs (partB x)))) := by
  have hsz : ((bs x).size : Int) = (x.length : Int) := by rw [bs_size']
  have q1 := quo_nat x.length 16777216 (by omega)
  have q2 := quo_nat x.length 65536 (by omega)
  have q3 := quo_nat x.length 256 (by omega)
  rw [← hsz] at q1 q2 q3
  have hcs := four_kb (x.length : Int)
  have hnl := numB_len (x.length : Int) 4
  rw [← hsz] at hcs
  refine af_enter tok Tryz.func33 Tryz.ntmps33 Tryz.results33 rfl (by kernel_rfl) rfl rfl fun F hX => ?_
  repeat (first | refine gG ?_ | refine zN1 (fun hlen => ?_) | refine zN2 (fun hlen => ?_))
  refine lo_quo rfl rfl (by decide) q1 ?_
  repeat (first | refine gG ?_ | refine zN1 (fun hlen => ?_) | refine zN2 (fun hlen => ?_))
  refine lo_conv tok rfl rfl rfl rfl rfl ?_
  repeat (first | refine gG ?_ | refine zN1 (fun hlen => ?_) | refine zN2 (fun hlen => ?_))
  refine lo_quo rfl rfl (by decide) q2 ?_
  repeat (first | refine gG ?_ | refine zN1 (fun hlen => ?_) | refine zN2 (fun hlen => ?_))
  refine lo_conv tok rfl rfl rfl rfl rfl ?_
  repeat (first | refine gG ?_ | refine zN1 (fun hlen => ?_) | refine zN2 (fun hlen => ?_))
  refine lo_quo rfl rfl (by decide) q3 ?_
  repeat (first | refine gG ?_ | refine zN1 (fun hlen => ?_) | refine zN2 (fun hlen => ?_))
  refine lo_conv tok rfl rfl rfl rfl rfl ?_
  repeat (first | refine gG ?_ | refine zN1 (fun hlen => ?_) | refine zN2 (fun hlen => ?_))
  refine lo_conv tok rfl rfl rfl rfl rfl ?_
  repeat (first | refine gG ?_ | refine zN1 (fun hlen => ?_) | refine zN2 (fun hlen => ?_))
  refine zStr (numB ((bs x).size : Int) 4) hcs rfl ?_
  repeat (first | refine gG ?_ | refine zN1 (fun hlen => ?_) | refine zN2 (fun hlen => ?_))
  refine zCatb (numB ((bs x).size : Int) 4) x (by rw [hsz, hnl]; omega) ?_
  repeat (first | refine gG ?_ | refine zN1 (fun hlen => ?_) | refine zN2 (fun hlen => ?_))
  first | refine zR ?_ | refine zQ ?_
  rw [hsz]; rfl
set_option maxRecDepth 100000 in
set_option maxHeartbeats 4000000 in
theorem rpacked_af (ls : List (List UInt8)) (hb : (ls.flatMap pkOne).length ≤ 100000000000000) : AF Tryz.prog 34 [byRow ls] (Outs2 (if ls.any bigB = true then [] else ls.flatMap pkOne) (if ls.any bigB = true then 2 else 0)) := by
  refine af_enter tok Tryz.func34 Tryz.ntmps34 Tryz.results34 rfl (by kernel_rfl) rfl rfl fun F hX => ?_
  repeat (first | refine gG ?_ | refine zN1 (fun hlen => ?_) | refine zN2 (fun hlen => ?_))
  refine x_loop [2, 3, 4, 6, 9, 10, 11, 12, 13, 14, 15, 16, 17, 18, 19, 20, 21, 22, 23, 24, 25, 26, 27, 28, 29, 30, 31] (fun y : Nat => [(9, .c (.lit (.int .i64 (y : Nat)))), (4, .c (.lit (.string (bs ((ls.take y).flatMap pkOne)))))]) (fun _ => []) (fun y => y ≤ ls.length ∧ (ls.take y).any bigB = false) (fun y => ls.length - y) 0 ⟨Nat.zero_le _, rfl⟩ ⟨rfl, rfl, trivial⟩ rfl ?_
  rintro k ⟨hk, hz⟩
  repeat (first | refine gG ?_ | refine zN1 (fun hlen => ?_) | refine zN2 (fun hlen => ?_))
  refine x_cond rfl (fun h => ?_) (fun h => ?_)
  · have hk' : k < ls.length := by simpa using h
    obtain ⟨a, ha⟩ := nth hk'
    have hsn := any_snoc ha hz
    have hat := any_at (p := bigB) ha
    have hfl := flat_snoc' pkOne ha
    have hle := flat_take_le pkOne ls (k + 1)
    rw [hfl, List.length_append, pkOne_len] at hle
    have hbg : bigB a = decide ((65535 : Int) < (a.length : Int)) := rfl
    rw [hbg] at hsn hat
    repeat (first | refine gG ?_ | refine zN1 (fun hlen => ?_) | refine zN2 (fun hlen => ?_))
    refine zIx k hk' ?_
    repeat (first | refine gG ?_ | refine zN1 (fun hlen => ?_) | refine zN2 (fun hlen => ?_))
    refine zEl1 (map_at bytRow ha) ?_
    cases c1 : decide ((65535 : Int) < (a.length : Int))
    rotate_left
    · have hat := hat c1
      have c2 : decide ((65536 : Int) ≤ (a.length : Int)) = true := decide_eq_true (by have := of_decide_eq_true c1; omega)
      repeat (first | refine gG ?_ | refine zN1 (fun hlen => ?_) | refine zN2 (fun hlen => ?_))
      first | refine zR (ts := [bytRow [], .lit (.int .i64 2)]) ?_ | refine zQ (ts := [bytRow [], .lit (.int .i64 2)]) ?_
      rw [hat]; rfl
    have hsn := hsn c1
    have hal : a.length ≤ 65535 := by have := of_decide_eq_false c1; omega
    have c2 : decide ((65536 : Int) ≤ (a.length : Int)) = false := decide_eq_false (by omega)
    have q1 := quo_nat a.length 256 (by omega)
    have hcs := two_kb ((a.length : Int) / 256) ((a.length : Int) % 256)
    rw [kb_mod] at hcs
    repeat (first | refine gG ?_ | refine zN1 (fun hlen => ?_) | refine zN2 (fun hlen => ?_))
    refine lo_quo rfl rfl (by decide) q1 ?_
    repeat (first | refine gG ?_ | refine zN1 (fun hlen => ?_) | refine zN2 (fun hlen => ?_))
    refine lo_conv tok rfl rfl rfl rfl rfl ?_
    repeat (first | refine gG ?_ | refine zN1 (fun hlen => ?_) | refine zN2 (fun hlen => ?_))
    refine lo_rem rfl rfl (by decide) (r := (a.length : Int) % 256) (by rw [Int.tmod_eq_emod_of_nonneg (by omega)]) ?_
    repeat (first | refine gG ?_ | refine zN1 (fun hlen => ?_) | refine zN2 (fun hlen => ?_))
    refine lo_conv tok rfl rfl rfl rfl rfl ?_
    repeat (first | refine gG ?_ | refine zN1 (fun hlen => ?_) | refine zN2 (fun hlen => ?_))
    refine zStr [kb ((a.length : Int) / 256), kb (a.length : Int)] hcs rfl ?_
    repeat (first | refine gG ?_ | refine zN1 (fun hlen => ?_) | refine zN2 (fun hlen => ?_))
    refine zStr a rfl rfl ?_
    repeat (first | refine gG ?_ | refine zN1 (fun hlen => ?_) | refine zN2 (fun hlen => ?_))
    refine zCatb [kb ((a.length : Int) / 256), kb (a.length : Int)] a (by first | omega | (simp only [List.length_cons, List.length_nil]; omega)) ?_
    repeat (first | refine gG ?_ | refine zN1 (fun hlen => ?_) | refine zN2 (fun hlen => ?_))
    refine zCatb ((ls.take k).flatMap pkOne) ([kb ((a.length : Int) / 256), kb (a.length : Int)] ++ a) (by first | omega | (simp only [List.length_append, List.length_cons, List.length_nil]; omega)) ?_
    repeat (first | refine gG ?_ | refine zN1 (fun hlen => ?_) | refine zN2 (fun hlen => ?_))
    exact ⟨k + 1, ⟨hk', hsn⟩, by omega, x_wkd 0 ⟨rfl, by simp only [hfl]; rfl, trivial⟩ rfl (by repeat (first | exact ag_refl | refine ag_upd rfl ?_ | refine ag_at rfl rfl ?_))⟩
  · have hk' : k = ls.length := by have : ¬ k < ls.length := by simpa using h
                                   omega
    subst hk'
    rw [List.take_length] at hz ⊢
    repeat (first | refine gG ?_ | refine zN1 (fun hlen => ?_) | refine zN2 (fun hlen => ?_))
    refine zByt (s := bs (ls.flatMap pkOne)) (by rw [bs_size']; simp only [maxLen]; omega) ?_
    repeat (first | refine gG ?_ | refine zN1 (fun hlen => ?_) | refine zN2 (fun hlen => ?_))
    first | refine zR ?_ | refine zQ ?_
    rw [hz]; rfl
theorem numB_nat (n k : Nat) : numB (n : Int) (k + 1) = kb ((n / 256 ^ k : Nat) : Int) :: numB (n : Int) k := by
  rw [numB]
  congr 2
theorem big_any {α : Type} {f : α → List UInt8} {l : List α} {a : α} (h : a ∈ l) (hb : bigB (f a) = true) : (l.map f).any bigB = true := List.any_eq_true.2 ⟨f a, List.mem_map_of_mem h, hb⟩
theorem pkOne_one (x : List UInt8) : [x].flatMap pkOne = pkOne x := by simp
theorem big_one (x : List UInt8) : [x].any bigB = bigB x := by simp
set_option maxRecDepth 100000 in
set_option maxHeartbeats 4000000 in
theorem snapBytes_af (s : Snp) (hs : s.Small) : AF Tryz.prog 12 [s.t] (Outs2 s.out s.err) := by
  have hc := snapFault_af s hs
  by_cases hyes : s.check = 0
  rotate_left
  · obtain ⟨e1, e2⟩ := Snp.err_ne hyes
    rw [e1, e2]
    have d1 : decide (s.check = 0) = false := decide_eq_false hyes
    generalize s.check = e at *
    obtain ⟨tm, l, ws⟩ := s
    refine af_enter tok Tryz.func12 Tryz.ntmps12 Tryz.results12 rfl (by kernel_rfl) rfl rfl fun F hX => ?_
    repeat (first | refine gG ?_ | refine zN1 (fun hlen => ?_) | refine zN2 (fun hlen => ?_) | refine zAl (fun _ => ?_) | refine zBf ?_)
    refine zCall (hc) ?_
    rintro _ rfl
    repeat (first | refine gG ?_ | refine zN1 (fun hlen => ?_) | refine zN2 (fun hlen => ?_) | refine zAl (fun _ => ?_) | refine zBx (fun _ => ?_))
    first | refine zR (ts := [bytRow [], .lit (.int .i64 e)]) ?_ | refine zQ (ts := [bytRow [], .lit (.int .i64 e)]) ?_
    rfl
  obtain ⟨e1, e2⟩ := Snp.err_eq hyes
  rw [e1, e2]
  have hR := Snp.right hyes
  have hbl := Snp.bytes_le hs hR
  rw [hyes] at hc
  clear e1 e2
  obtain ⟨tm, l, ws⟩ := s
  obtain ⟨r1, r2, r3, r4, r5⟩ := hR
  obtain ⟨s1, s2, s3⟩ := hs
  dsimp only at r1 r2 r3 r4 r5 s1 s2 s3 ⊢
  have hbe : (Snp.mk tm l ws).bytes = numB tm 8 ++ [kb (l.length : Int), kb (ws.length : Int)] ++ l.flatMap parPart ++ ws.flatMap wayPart := rfl
  rw [hbe] at hbl ⊢
  simp only [List.length_append, List.length_cons, List.length_nil, numB_len] at hbl
  obtain ⟨tm, rfl⟩ := nat_of r1
  unfold inI at s3
  have htk := two_kb (l.length : Int) (ws.length : Int)
  refine af_enter tok Tryz.func12 Tryz.ntmps12 Tryz.results12 rfl (by kernel_rfl) rfl rfl fun F hX => ?_
  repeat (first | refine gG ?_ | refine zN1 (fun hlen => ?_) | refine zN2 (fun hlen => ?_) | refine zAl (fun _ => ?_) | refine zBf ?_)
  refine zCall (hc) ?_
  rintro _ rfl
  repeat (first | refine gG ?_ | refine zN1 (fun hlen => ?_) | refine zN2 (fun hlen => ?_) | refine zAl (fun _ => ?_) | refine zBf ?_)
  refine ac_draw [1, 1, 1, 1] [0, 1, 2, 3] (by kernel_rfl) (by kernel_rfl) ?_
  refine gW ?_
  refine w_nil ?_
  repeat (first | refine gG ?_ | refine zN1 (fun hlen => ?_) | refine zN2 (fun hlen => ?_) | refine zAl (fun _ => ?_) | refine zBf ?_)
  refine x_loop [5, 6, 7, 27, 28, 29, 30, 31, 32, 33, 34, 35, 36, 37, 38, 39] (fun i : Nat => [(6, .c (.lit (.int .i64 (i : Nat)))), (7, .c (.lit (.int .i64 ((tm / 256 ^ i : Nat) : Int)))), (5, .c (.lit (.string (bs (numB (tm : Int) i)))))]) (fun _ => []) (fun i => i ≤ 8) (fun i => 8 - i) 0 (by omega) ⟨rfl, by rw [Nat.pow_zero, Nat.div_one]; rfl, rfl, trivial⟩ rfl ?_
  intro i hi
  repeat (first | refine gG ?_ | refine zN1 (fun hlen => ?_) | refine zN2 (fun hlen => ?_) | refine zAl (fun _ => ?_) | refine zBx (fun _ => ?_))
  refine x_cond rfl (fun h => ?_) (fun h => ?_)
  · have hi' : i < 8 := by have := of_decide_eq_true h; omega
    have hle : tm / 256 ^ i ≤ tm := Nat.div_le_self _ _
    have hds : tm / 256 ^ i / 256 = tm / 256 ^ (i + 1) := by rw [Nat.div_div_eq_div_mul, Nat.pow_succ]
    have hnb := numB_nat tm i
    have hnl := numB_len (tm : Int) i
    generalize hd' : tm / 256 ^ (i + 1) = d' at *
    generalize tm / 256 ^ i = d at *
    have q1 := quo_nat d 256 (by omega)
    have hq : (d : Int) / ((256 : Nat) : Int) = (d' : Int) := by omega
    rw [hq] at q1
    have hcs := one_kb ((d : Int) % 256)
    rw [kb_mod] at hcs
    repeat (first | refine gG ?_ | refine zN1 (fun hlen => ?_) | refine zN2 (fun hlen => ?_) | refine zAl (fun _ => ?_) | refine zBx (fun _ => ?_))
    refine lo_rem rfl rfl (by decide) (r := (d : Int) % 256) (by rw [Int.tmod_eq_emod_of_nonneg (by omega)]) ?_
    repeat (first | refine gG ?_ | refine zN1 (fun hlen => ?_) | refine zN2 (fun hlen => ?_) | refine zAl (fun _ => ?_) | refine zBx (fun _ => ?_))
    refine lo_conv tok rfl rfl rfl rfl rfl ?_
    repeat (first | refine gG ?_ | refine zN1 (fun hlen => ?_) | refine zN2 (fun hlen => ?_) | refine zAl (fun _ => ?_) | refine zBx (fun _ => ?_))
    refine zStr [kb (d : Int)] hcs rfl ?_
    repeat (first | refine gG ?_ | refine zN1 (fun hlen => ?_) | refine zN2 (fun hlen => ?_) | refine zAl (fun _ => ?_) | refine zBx (fun _ => ?_))
    refine zCatb [kb (d : Int)] (numB (tm : Int) i) (by first | omega | (simp only [List.length_cons, List.length_nil]; omega)) ?_
    repeat (first | refine gG ?_ | refine zN1 (fun hlen => ?_) | refine zN2 (fun hlen => ?_) | refine zAl (fun _ => ?_) | refine zBx (fun _ => ?_))
    refine lo_quo rfl rfl (by decide) q1 ?_
    repeat (first | refine gG ?_ | refine zN1 (fun hlen => ?_) | refine zN2 (fun hlen => ?_) | refine zAl (fun _ => ?_) | refine zBx (fun _ => ?_))
    exact ⟨i + 1, hi', by omega, x_wkd 0 ⟨rfl, by rw [hd']; rfl, by rw [hnb]; rfl, trivial⟩ rfl (by repeat (first | exact ag_refl | refine ag_upd rfl ?_ | refine ag_at rfl rfl ?_))⟩
  have hi' : i = 8 := by have := of_decide_eq_false h; omega
  subst hi'
  have hnl := numB_len (tm : Int) 8
  repeat (first | refine gG ?_ | refine zN1 (fun hlen => ?_) | refine zN2 (fun hlen => ?_) | refine zAl (fun _ => ?_) | refine zBx (fun _ => ?_))
  refine lo_conv tok rfl rfl rfl rfl rfl ?_
  repeat (first | refine gG ?_ | refine zN1 (fun hlen => ?_) | refine zN2 (fun hlen => ?_) | refine zAl (fun _ => ?_) | refine zBx (fun _ => ?_))
  refine lo_conv tok rfl rfl rfl rfl rfl ?_
  repeat (first | refine gG ?_ | refine zN1 (fun hlen => ?_) | refine zN2 (fun hlen => ?_) | refine zAl (fun _ => ?_) | refine zBx (fun _ => ?_))
  refine zStr [kb (l.length : Int), kb (ws.length : Int)] htk rfl ?_
  repeat (first | refine gG ?_ | refine zN1 (fun hlen => ?_) | refine zN2 (fun hlen => ?_) | refine zAl (fun _ => ?_) | refine zBx (fun _ => ?_))
  refine zCatb (numB (tm : Int) 8) [kb (l.length : Int), kb (ws.length : Int)] (by first | omega | (simp only [List.length_cons, List.length_nil]; omega)) ?_
  have hhd : (numB (tm : Int) 8 ++ [kb (l.length : Int), kb (ws.length : Int)]).length = 10 := by rw [List.length_append, hnl]; rfl
  generalize numB (tm : Int) 8 ++ [kb (l.length : Int), kb (ws.length : Int)] = hd2 at *
  repeat (first | refine gG ?_ | refine zN1 (fun hlen => ?_) | refine zN2 (fun hlen => ?_) | refine zAl (fun _ => ?_) | refine zBx (fun _ => ?_))
  refine x_loop [8, 10, 11, 12, 55, 56, 57, 58, 59, 60, 61, 62, 63, 64, 65, 66, 67, 68, 69] (fun y : Nat => [(55, .c (.lit (.int .i64 (y : Nat)))), (8, .c (.lit (.string (bs (hd2 ++ (l.take y).flatMap parPart)))))]) (fun _ => []) (fun y => y ≤ l.length) (fun y => l.length - y) 0 (Nat.zero_le _) ⟨rfl, by simp only [List.take_zero, List.flatMap_nil, List.append_nil] <;> rfl, trivial⟩ rfl ?_
  intro k hk
  repeat (first | refine gG ?_ | refine zN1 (fun hlen => ?_) | refine zN2 (fun hlen => ?_) | refine zAl (fun _ => ?_) | refine zBx (fun _ => ?_))
  refine x_cond rfl (fun h => ?_) (fun h => ?_)
  · have hk' : k < l.length := by simpa using h
    obtain ⟨a, ha⟩ := nth hk'
    have hck := r4 a (List.mem_of_getElem? ha)
    have hw := parcelBytes_af a (s1 a (List.mem_of_getElem? ha)).1
    have ho : a.out = a.bytes := by rw [Par.out, if_pos hck]
    rw [ho, hck] at hw
    have hfl := flat_snoc' parPart ha
    have hle := flat_take_le parPart l (k + 1)
    rw [hfl, List.length_append, parPart, partB_len] at hle
    have hlg := long_af a.bytes (by omega)
    have hpl := partB_len a.bytes
    have hpp : parPart a = partB a.bytes := rfl
    rw [hpp] at hfl
    generalize a.bytes = ab at *
    repeat (first | refine gG ?_ | refine zN1 (fun hlen => ?_) | refine zN2 (fun hlen => ?_) | refine zAl (fun _ => ?_) | refine zBx (fun _ => ?_))
    refine zIx (k) (hk') ?_
    repeat (first | refine gG ?_ | refine zN1 (fun hlen => ?_) | refine zN2 (fun hlen => ?_) | refine zAl (fun _ => ?_) | refine zBx (fun _ => ?_))
    refine zEl (flat_at Par.ts 8 Par.ts_len ha) (Par.ts_len a) ?_
    obtain ⟨rf, ⟨ac, st, ip⟩, bx, tk, wt, lk⟩ := a
    repeat (first | refine gG ?_ | refine zN1 (fun hlen => ?_) | refine zN2 (fun hlen => ?_) | refine zAl (fun _ => ?_) | refine zBx (fun _ => ?_))
    refine zCall (hw) ?_
    rintro _ rfl
    repeat (first | refine gG ?_ | refine zN1 (fun hlen => ?_) | refine zN2 (fun hlen => ?_) | refine zAl (fun _ => ?_) | refine zBx (fun _ => ?_))
    refine zStr ab rfl rfl ?_
    repeat (first | refine gG ?_ | refine zN1 (fun hlen => ?_) | refine zN2 (fun hlen => ?_) | refine zAl (fun _ => ?_) | refine zBx (fun _ => ?_))
    refine zCall (hlg) ?_
    rintro _ rfl
    repeat (first | refine gG ?_ | refine zN1 (fun hlen => ?_) | refine zN2 (fun hlen => ?_) | refine zAl (fun _ => ?_) | refine zBx (fun _ => ?_))
    refine zCatb (hd2 ++ (l.take k).flatMap parPart) (partB ab) (by first | omega | (simp only [List.length_append]; omega)) ?_
    repeat (first | refine gG ?_ | refine zN1 (fun hlen => ?_) | refine zN2 (fun hlen => ?_) | refine zAl (fun _ => ?_) | refine zBx (fun _ => ?_))
    exact ⟨k + 1, hk', by omega, x_wkd 0 ⟨rfl, by simp only [hfl, List.append_assoc]; rfl, trivial⟩ rfl (by repeat (first | exact ag_refl | refine ag_upd rfl ?_ | refine ag_at rfl rfl ?_))⟩
  have hk' : k = l.length := by have : ¬ k < l.length := by simpa using h
                                omega
  subst hk'
  rw [List.take_length]
  have hh3 : (hd2 ++ l.flatMap parPart).length = hd2.length + (l.flatMap parPart).length := List.length_append
  generalize hd2 ++ l.flatMap parPart = hd3 at *
  repeat (first | refine gG ?_ | refine zN1 (fun hlen => ?_) | refine zN2 (fun hlen => ?_) | refine zAl (fun _ => ?_) | refine zBx (fun _ => ?_))
  refine x_loop [2, 3, 8, 14, 15, 17, 18, 19, 73, 74, 75, 76, 77, 78, 79, 80, 81, 82, 83, 84, 85, 86, 87, 88, 89, 90, 91, 92, 93, 94, 95, 96, 97, 98, 99, 100, 101, 102, 103, 104, 105, 106, 107, 108, 109, 110, 111, 112] (fun y : Nat => [(73, .c (.lit (.int .i64 (y : Nat)))), (8, .c (.lit (.string (bs (hd3 ++ (ws.take y).flatMap wayPart)))))]) (fun _ => []) (fun y => y ≤ ws.length ∧ (ws.take y).any Wy.big = false) (fun y => ws.length - y) 0 ⟨Nat.zero_le _, rfl⟩ ⟨rfl, by simp only [List.take_zero, List.flatMap_nil, List.append_nil] <;> rfl, trivial⟩ rfl ?_
  rintro k ⟨hk, hz⟩
  repeat (first | refine gG ?_ | refine zN1 (fun hlen => ?_) | refine zN2 (fun hlen => ?_) | refine zAl (fun _ => ?_) | refine zBx (fun _ => ?_))
  refine x_cond rfl (fun h => ?_) (fun h => ?_)
  rotate_left
  · have hk' : k = ws.length := by have : ¬ k < ws.length := by simpa using h
                                   omega
    subst hk'
    rw [List.take_length] at hz ⊢
    repeat (first | refine gG ?_ | refine zN1 (fun hlen => ?_) | refine zN2 (fun hlen => ?_) | refine zAl (fun _ => ?_) | refine zBx (fun _ => ?_))
    refine zByt (s := bs (hd3 ++ ws.flatMap wayPart)) (by rw [bs_size', List.length_append]; simp only [maxLen]; omega) ?_
    repeat (first | refine gG ?_ | refine zN1 (fun hlen => ?_) | refine zN2 (fun hlen => ?_) | refine zAl (fun _ => ?_) | refine zBx (fun _ => ?_))
    first | refine zR ?_ | refine zQ ?_
    rw [hz]; rfl
  have hk' : k < ws.length := by simpa using h
  obtain ⟨a, ha⟩ := nth hk'
  obtain ⟨q1, q2, q3⟩ := r5 a (List.mem_of_getElem? ha)
  have hti := s2 a (List.mem_of_getElem? ha)
  have hwt := wayText_le q2 hti
  have hsn := any_snoc ha hz
  have hat := any_at (p := Wy.big) ha
  have hbg : a.big = (a.lets.map Lt.bytes).any bigB := rfl
  rw [hbg] at hsn hat
  have hfl := flat_snoc' wayPart ha
  have hle := flat_take_le wayPart ws (k + 1)
  rw [hfl, List.length_append, wayPart, partB_len] at hle
  have hlg := long_af (wayText a) (by omega)
  have hpl := partB_len (wayText a)
  have hpp : wayPart a = partB (wayText a) := rfl
  rw [hpp] at hfl
  have htx : wayText a = [kb a.frm, kb a.to] ++ (a.lets.map Lt.bytes).flatMap pkOne := rfl
  rw [htx] at hwt
  rw [List.length_append] at hwt
  have hlp := flat_map Lt.bytes pkOne a.lets
  repeat (first | refine gG ?_ | refine zN1 (fun hlen => ?_) | refine zN2 (fun hlen => ?_) | refine zAl (fun _ => ?_) | refine zBx (fun _ => ?_))
  refine zIx (k) (hk') ?_
  repeat (first | refine gG ?_ | refine zN1 (fun hlen => ?_) | refine zN2 (fun hlen => ?_) | refine zAl (fun _ => ?_) | refine zBx (fun _ => ?_))
  refine zEl (flat_at Wy.ts 3 Wy.ts_len ha) (Wy.ts_len a) ?_
  generalize wayText a = wx at *
  obtain ⟨fr, to, ls⟩ := a
  dsimp only at htx hsn hat hwt hti q3 hlp
  have htt := two_kb fr to
  rw [hlp] at htx hwt
  simp only [List.length_cons, List.length_nil] at hwt
  repeat (first | refine gG ?_ | refine zN1 (fun hlen => ?_) | refine zN2 (fun hlen => ?_) | refine zAl (fun _ => ?_) | refine zBx (fun _ => ?_))
  refine lo_conv tok rfl rfl rfl rfl rfl ?_
  repeat (first | refine gG ?_ | refine zN1 (fun hlen => ?_) | refine zN2 (fun hlen => ?_) | refine zAl (fun _ => ?_) | refine zBx (fun _ => ?_))
  refine lo_conv tok rfl rfl rfl rfl rfl ?_
  repeat (first | refine gG ?_ | refine zN1 (fun hlen => ?_) | refine zN2 (fun hlen => ?_) | refine zAl (fun _ => ?_) | refine zBx (fun _ => ?_))
  refine zStr [kb fr, kb to] htt rfl ?_
  repeat (first | refine gG ?_ | refine zN1 (fun hlen => ?_) | refine zN2 (fun hlen => ?_) | refine zAl (fun _ => ?_) | refine zBx (fun _ => ?_))
  rename_i bw
  refine x_loop [2, 3, 15, 17, 18, 19, 88, 89, 90, 91, 92, 93, 94, 95, 96, 97, 98, 99, 100, 101, 102, 103, 104, 105, 106, 107] (fun j : Nat => [(88, .c (.lit (.int .i64 j))), (15, .c (.lit (.string (bs ([kb fr, kb to] ++ (ls.take j).flatMap fun x => pkOne x.bytes)))))]) (fun _ => [.box bw 57 [.c (.lit (.int .i64 fr)), .c (.lit (.int .i64 to)), .c (letRow ls)]]) (fun j => j ≤ ls.length ∧ ∀ x ∈ ls.take j, bigB x.bytes = false) (fun j => ls.length - j) 0 ⟨Nat.zero_le _, by simp⟩ ⟨rfl, rfl, trivial⟩ rfl ?_
  rintro j ⟨hj, hz3⟩
  repeat (first | refine gG ?_ | refine zN1 (fun hlen => ?_) | refine zN2 (fun hlen => ?_) | refine zAl (fun _ => ?_) | refine zBx (fun _ => ?_))
  refine x_cond rfl (fun h => ?_) (fun h => ?_)
  · have hj' : j < ls.length := by simpa using h
    obtain ⟨x, hx⟩ := nth hj'
    have hxt := hti x (List.mem_of_getElem? hx)
    have hxb := hxt.2.2.1
    have hlt := letterText_af' (q3 x (List.mem_of_getElem? hx)) hxt.1 (by omega)
    have hsn3 := take_snoc (p := fun x : Lt => bigB x.bytes = false) hx hz3
    have hpk := rpacked_af [x.bytes] (by rw [pkOne_one, pkOne_len]; omega)
    rw [pkOne_one, big_one] at hpk
    have hbx := fun hb => big_any (f := Lt.bytes) (List.mem_of_getElem? hx) hb
    have hfl3 := flat_snoc' (fun x : Lt => pkOne x.bytes) hx
    have hle3 := flat_take_le (fun x : Lt => pkOne x.bytes) ls (j + 1)
    rw [hfl3, List.length_append] at hle3
    have hpl3 := pkOne_len x.bytes
    repeat (first | refine gG ?_ | refine zN1 (fun hlen => ?_) | refine zN2 (fun hlen => ?_) | refine zAl (fun _ => ?_) | refine zBx (fun _ => ?_))
    refine zIx (j) (hj') ?_
    repeat (first | refine gG ?_ | refine zN1 (fun hlen => ?_) | refine zN2 (fun hlen => ?_) | refine zAl (fun _ => ?_) | refine zBx (fun _ => ?_))
    refine zEl (flat_at Lt.ts 9 Lt.ts_len hx) (Lt.ts_len x) ?_
    generalize x.bytes = xb at *
    obtain ⟨ka, fa, ta, na, sa, ⟨kv, nv, tv, lv⟩⟩ := x
    repeat (first | refine gG ?_ | refine zN1 (fun hlen => ?_) | refine zN2 (fun hlen => ?_) | refine zAl (fun _ => ?_) | refine zBx (fun _ => ?_))
    refine zCall (hlt) ?_
    rintro _ rfl
    repeat (first | refine gG ?_ | refine zN1 (fun hlen => ?_) | refine zN2 (fun hlen => ?_) | refine zAl (fun _ => ?_) | refine zBx (fun _ => ?_))
    refine zByt (s := bs xb) (by rw [bs_size']; simp only [maxLen]; omega) ?_
    cases c2 : bigB xb
    · rw [c2] at hpk
      simp only [Bool.false_eq_true, if_false] at hpk
      repeat (first | refine gG ?_ | refine zN1 (fun hlen => ?_) | refine zN2 (fun hlen => ?_) | refine zAl (fun _ => ?_) | refine zBx (fun _ => ?_))
      refine zCall (hpk) ?_
      rintro _ rfl
      repeat (first | refine gG ?_ | refine zN1 (fun hlen => ?_) | refine zN2 (fun hlen => ?_) | refine zAl (fun _ => ?_) | refine zBx (fun _ => ?_))
      refine zStr (pkOne xb) rfl rfl ?_
      repeat (first | refine gG ?_ | refine zN1 (fun hlen => ?_) | refine zN2 (fun hlen => ?_) | refine zAl (fun _ => ?_) | refine zBx (fun _ => ?_))
      refine zCatb ([kb fr, kb to] ++ (ls.take j).flatMap fun x => pkOne x.bytes) (pkOne xb) (by first | omega | (simp only [List.length_append, List.length_cons, List.length_nil]; omega)) ?_
      repeat (first | refine gG ?_ | refine zN1 (fun hlen => ?_) | refine zN2 (fun hlen => ?_) | refine zAl (fun _ => ?_) | refine zBx (fun _ => ?_))
      exact ⟨j + 1, ⟨hj', hsn3 c2⟩, by omega, x_wkd 1 ⟨rfl, by simp only [hfl3, List.append_assoc]; rfl, trivial⟩ rfl (by repeat (first | exact ag_refl | refine ag_upd rfl ?_ | refine ag_at rfl rfl ?_))⟩
    · have hat := hat (hbx c2)
      rw [c2] at hpk
      simp only [if_true] at hpk
      repeat (first | refine gG ?_ | refine zN1 (fun hlen => ?_) | refine zN2 (fun hlen => ?_) | refine zAl (fun _ => ?_) | refine zBx (fun _ => ?_))
      refine zCall (hpk) ?_
      rintro _ rfl
      repeat (first | refine gG ?_ | refine zN1 (fun hlen => ?_) | refine zN2 (fun hlen => ?_) | refine zAl (fun _ => ?_) | refine zBx (fun _ => ?_))
      first | refine zR (ts := [bytRow [], .lit (.int .i64 2)]) ?_ | refine zQ (ts := [bytRow [], .lit (.int .i64 2)]) ?_
      rw [hat]; rfl
  have hj' : j = ls.length := by have : ¬ j < ls.length := by simpa using h
                                 omega
  subst hj'
  rw [List.take_length] at hz3 ⊢
  rw [← htx]
  have hno : (ls.map Lt.bytes).any bigB = false := by
    rw [List.any_eq_false]
    intro y hy
    obtain ⟨x, hx, rfl⟩ := List.mem_map.1 hy
    rw [hz3 x hx]; decide
  have hsn := hsn hno
  repeat (first | refine gG ?_ | refine zN1 (fun hlen => ?_) | refine zN2 (fun hlen => ?_) | refine zAl (fun _ => ?_) | refine zBx (fun _ => ?_))
  refine zCall (hlg) ?_
  rintro _ rfl
  repeat (first | refine gG ?_ | refine zN1 (fun hlen => ?_) | refine zN2 (fun hlen => ?_) | refine zAl (fun _ => ?_) | refine zBx (fun _ => ?_))
  refine zCatb (hd3 ++ (ws.take k).flatMap wayPart) (partB wx) (by first | omega | (simp only [List.length_append]; omega)) ?_
  repeat (first | refine gG ?_ | refine zN1 (fun hlen => ?_) | refine zN2 (fun hlen => ?_) | refine zAl (fun _ => ?_) | refine zBx (fun _ => ?_))
  exact ⟨k + 1, ⟨hk', hsn⟩, by omega, x_wkd 0 ⟨rfl, by simp only [hfl, List.append_assoc]; rfl, trivial⟩ rfl (by repeat (first | exact ag_refl | refine ag_upd rfl ?_ | refine ag_at rfl rfl ?_))⟩
end Go.Proofs.YthgackidonocpaaGreat
namespace Go.Proofs.YthgackidonocpaaGreat
open Go.RowKit
set_option maxRecDepth 100000 in
set_option maxHeartbeats 4000000 in
theorem smallS_af (s : Snp) (hs : s.Small) : AF Tryz.prog 10 [s.t] Tell := by
  obtain ⟨s1, s2, s3⟩ := hs
  obtain ⟨tm, l, ws⟩ := s
  dsimp only at s1 s2
  refine af_enter tok Tryz.func10 Tryz.ntmps10 Tryz.results10 rfl (by kernel_rfl) rfl rfl fun F hX => ?_
  repeat (first | refine gG ?_ | refine zN1 (fun hlen => ?_) | refine zN2 (fun hlen => ?_) | refine zAl (fun _ => ?_) | refine zBf ?_)
  refine x_loop [2, 4, 12, 13, 14, 15, 16, 17, 18, 19] (fun k : Nat => [(12, .c (.lit (.int .i64 k)))]) (fun _ => []) (fun k => k ≤ l.length) (fun k => l.length - k) 0 (Nat.zero_le _) ⟨rfl, trivial⟩ rfl fun k hk => ?_
  repeat (first | refine gG ?_ | refine zN1 (fun hlen => ?_) | refine zN2 (fun hlen => ?_) | refine zAl (fun _ => ?_) | refine zBx (fun _ => ?_))
  refine x_cond rfl (fun h => ?_) (fun h => ?_)
  · have hk' : k < l.length := by simpa using h
    obtain ⟨a, ha⟩ := nth hk'
    obtain ⟨t1, t2⟩ := s1 a (List.mem_of_getElem? ha)
    have hp := parcelSmall_af a t1 t2
    repeat (first | refine gG ?_ | refine zN1 (fun hlen => ?_) | refine zN2 (fun hlen => ?_) | refine zAl (fun _ => ?_) | refine zBx (fun _ => ?_))
    refine zIx (k) (hk') ?_
    repeat (first | refine gG ?_ | refine zN1 (fun hlen => ?_) | refine zN2 (fun hlen => ?_) | refine zAl (fun _ => ?_) | refine zBx (fun _ => ?_))
    refine zEl (flat_at Par.ts 8 Par.ts_len ha) (Par.ts_len a) ?_
    obtain ⟨rf, ⟨ac, st, ip⟩, bx, tk, wt, lk⟩ := a
    repeat (first | refine gG ?_ | refine zN1 (fun hlen => ?_) | refine zN2 (fun hlen => ?_) | refine zAl (fun _ => ?_) | refine zBx (fun _ => ?_))
    refine zCall (hp) ?_
    rintro _ ⟨b, rfl⟩
    cases b
    · repeat (first | refine gG ?_ | refine zN1 (fun hlen => ?_) | refine zN2 (fun hlen => ?_) | refine zAl (fun _ => ?_) | refine zBx (fun _ => ?_))
      first | refine zR ?_ | refine zQ ?_
      exact ⟨_, rfl⟩
    · repeat (first | refine gG ?_ | refine zN1 (fun hlen => ?_) | refine zN2 (fun hlen => ?_) | refine zAl (fun _ => ?_) | refine zBx (fun _ => ?_))
      exact ⟨k + 1, hk', by omega, x_wkd 0 ⟨rfl, trivial⟩ rfl (by repeat (first | exact ag_refl | refine ag_upd rfl ?_ | refine ag_at rfl rfl ?_))⟩
  repeat (first | refine gG ?_ | refine zN1 (fun hlen => ?_) | refine zN2 (fun hlen => ?_) | refine zAl (fun _ => ?_) | refine zBx (fun _ => ?_))
  refine x_loop [2, 6, 8, 23, 24, 25, 26, 27, 28, 29, 30, 31, 32, 33, 34, 35, 36, 37, 38, 39] (fun k : Nat => [(23, .c (.lit (.int .i64 k)))]) (fun _ => []) (fun k => k ≤ ws.length) (fun k => ws.length - k) 0 (Nat.zero_le _) ⟨rfl, trivial⟩ rfl fun k hk => ?_
  repeat (first | refine gG ?_ | refine zN1 (fun hlen => ?_) | refine zN2 (fun hlen => ?_) | refine zAl (fun _ => ?_) | refine zBx (fun _ => ?_))
  refine x_cond rfl (fun h => ?_) (fun h => ?_)
  rotate_left
  · repeat (first | refine gG ?_ | refine zN1 (fun hlen => ?_) | refine zN2 (fun hlen => ?_) | refine zAl (fun _ => ?_) | refine zBx (fun _ => ?_))
    first | refine zR ?_ | refine zQ ?_
    exact ⟨_, rfl⟩
  have hk' : k < ws.length := by simpa using h
  obtain ⟨a, ha⟩ := nth hk'
  have hst := s2 a (List.mem_of_getElem? ha)
  repeat (first | refine gG ?_ | refine zN1 (fun hlen => ?_) | refine zN2 (fun hlen => ?_) | refine zAl (fun _ => ?_) | refine zBx (fun _ => ?_))
  refine zIx (k) (hk') ?_
  repeat (first | refine gG ?_ | refine zN1 (fun hlen => ?_) | refine zN2 (fun hlen => ?_) | refine zAl (fun _ => ?_) | refine zBx (fun _ => ?_))
  refine zEl (flat_at Wy.ts 3 Wy.ts_len ha) (Wy.ts_len a) ?_
  obtain ⟨fr, to, ls⟩ := a
  dsimp only at hst
  repeat (first | refine gG ?_ | refine zN1 (fun hlen => ?_) | refine zN2 (fun hlen => ?_) | refine zAl (fun _ => ?_) | refine zBx (fun _ => ?_))
  rename_i bw
  refine x_loop [2, 8, 30, 31, 32, 33, 34, 35, 36, 37, 38] (fun j : Nat => [(30, .c (.lit (.int .i64 j)))]) (fun _ => [.box bw 57 [.c (.lit (.int .i64 fr)), .c (.lit (.int .i64 to)), .c (letRow ls)]]) (fun j => j ≤ ls.length) (fun j => ls.length - j) 0 (Nat.zero_le _) ⟨rfl, trivial⟩ rfl fun j hj => ?_
  repeat (first | refine gG ?_ | refine zN1 (fun hlen => ?_) | refine zN2 (fun hlen => ?_) | refine zAl (fun _ => ?_) | refine zBx (fun _ => ?_))
  refine x_cond rfl (fun h => ?_) (fun h => ?_)
  · have hj' : j < ls.length := by simpa using h
    obtain ⟨x, hx⟩ := nth hj'
    have hv := valueSmall_af x.val (hst x (List.mem_of_getElem? hx)).2.1
    repeat (first | refine gG ?_ | refine zN1 (fun hlen => ?_) | refine zN2 (fun hlen => ?_) | refine zAl (fun _ => ?_) | refine zBx (fun _ => ?_))
    refine zIx (j) (hj') ?_
    repeat (first | refine gG ?_ | refine zN1 (fun hlen => ?_) | refine zN2 (fun hlen => ?_) | refine zAl (fun _ => ?_) | refine zBx (fun _ => ?_))
    refine zEl (flat_at Lt.ts 9 Lt.ts_len hx) (Lt.ts_len x) ?_
    obtain ⟨ka, fa, ta, na, sa, ⟨kv, nv, tv, lv⟩⟩ := x
    simp only [Lt.val] at hv
    repeat (first | refine gG ?_ | refine zN1 (fun hlen => ?_) | refine zN2 (fun hlen => ?_) | refine zAl (fun _ => ?_) | refine zBx (fun _ => ?_))
    refine zCall (hv) ?_
    rintro _ ⟨b, rfl⟩
    cases b
    · repeat (first | refine gG ?_ | refine zN1 (fun hlen => ?_) | refine zN2 (fun hlen => ?_) | refine zAl (fun _ => ?_) | refine zBx (fun _ => ?_))
      first | refine zR ?_ | refine zQ ?_
      exact ⟨_, rfl⟩
    · repeat (first | refine gG ?_ | refine zN1 (fun hlen => ?_) | refine zN2 (fun hlen => ?_) | refine zAl (fun _ => ?_) | refine zBx (fun _ => ?_))
      exact ⟨j + 1, hj', by omega, x_wkd 1 ⟨rfl, trivial⟩ rfl (by repeat (first | exact ag_refl | refine ag_upd rfl ?_ | refine ag_at rfl rfl ?_))⟩
  · repeat (first | refine gG ?_ | refine zN1 (fun hlen => ?_) | refine zN2 (fun hlen => ?_) | refine zAl (fun _ => ?_) | refine zBx (fun _ => ?_))
    exact ⟨k + 1, hk', by omega, x_wkd 0 ⟨rfl, trivial⟩ rfl (by repeat (first | exact ag_refl | refine ag_upd rfl ?_ | refine ag_at rfl rfl ?_))⟩
def Snp.zero : Snp := ⟨0, [], []⟩
end Go.Proofs.YthgackidonocpaaGreat
namespace Go.Proofs.YthgackidonocpaaGreat
open Go.RowKit
/-- one more byte of a number -/
def stW (n : Int) (x : UInt8) : Int := IntKind.i64.wrap (n * 256 + (x.toNat : Int))
def rdW (l : List UInt8) : Int := l.foldl stW 0
def cutS (b : List UInt8) : Option (List UInt8 × List UInt8) :=
  if b.length < 4 then none else if ((b.length - 4 : Nat) : Int) < rdW (b.take 4) then none else some ((b.drop 4).take (rdW (b.take 4)).toNat, b.drop (4 + (rdW (b.take 4)).toNat))
/-- packed byte strings, asq long asq they are complete -/
def scanS : Nat → List UInt8 → List (List UInt8) × Nat
  | 0, _ => ([], 0)
  | f + 1, b =>
    match b with
    | x :: y :: r => if r.length < 256 * x.toNat + y.toNat then ([], 0) else (r.take (256 * x.toNat + y.toNat) :: (scanS f (r.drop (256 * x.toNat + y.toNat))).1, 2 + (256 * x.toNat + y.toNat) + (scanS f (r.drop (256 * x.toNat + y.toNat))).2)
    | _ => ([], 0)
def letOk (x : List UInt8) : Bool := decide ((rdLet x).2 = 0)
def wayS (b : List UInt8) : Option Wy :=
  match b with
  | x :: y :: r => if (scanS (r.length + 1) r).1.all letOk && decide ((scanS (r.length + 1) r).2 = r.length) then some ⟨x.toNat, y.toNat, (scanS (r.length + 1) r).1.map fun z => (rdLet z).1⟩ else none
  | _ => none
def parS (x : List UInt8) : Option Par := if (rdP x).2 = 0 then some (rdP x).1 else none
/-- so many parts, each read -/
def decL {α : Type} (g : List UInt8 → Option α) : Nat → List UInt8 → Option (List α × List UInt8)
  | 0, b => some ([], b)
  | k + 1, b =>
    match cutS b with
    | none => none
    | some (x, r) =>
      match g x with
      | none => none
      | some a => (decL g k r).map fun q => (a :: q.1, q.2)
def decS (b : List UInt8) : Option Snp :=
  if b.length < 10 then none else
    match decL parS (b.getD 8 0).toNat (b.drop 10) with
    | none => none
    | some (ps, r) =>
      match decL wayS (b.getD 9 0).toNat r with
      | none => none
      | some (ws, r') => if r' = [] then some ⟨rdW (b.take 8), ps, ws⟩ else none
theorem kb_nat2 (n : Nat) : (kb (n : Int)).toNat = n % 256 := by
  have h : ((n : Int) % 256).toNat < 256 := by omega
  unfold kb
  rw [UInt8.toNat_ofNat', Nat.mod_eq_of_lt (by simpa using h)]
  omega
theorem rdWB (k n : Nat) (h : n ≤ 9223372036854775807) (h0 : n / 256 ^ k = 0) : rdW (numB (n : Int) k) = (n : Int) := by
  have gen : ∀ (k m : Nat) (a : Nat), m ≤ 9223372036854775807 → a = m / 256 ^ k → (numB (m : Int) k).foldl stW (a : Int) = (m : Int) := by
    intro k
    induction k with
    | zero => intro m a hm ha; simp only [numB, List.foldl_nil]; rw [ha]; simp
    | succ k ih =>
      intro m a hm ha
      rw [numB_nat, List.foldl_cons]
      have h1 : m / 256 ^ k / 256 = a := by rw [ha, Nat.div_div_eq_div_mul, Nat.pow_succ]
      have h2 : m / 256 ^ k ≤ m := Nat.div_le_self _ _
      have h3 : stW (a : Int) (kb ((m / 256 ^ k : Nat) : Int)) = ((m / 256 ^ k : Nat) : Int) := by
        generalize m / 256 ^ k = d at *
        unfold stW
        rw [kb_nat2, IntWalk.i64_in _ (by omega)]
        omega
      rw [h3]
      exact ih m _ hm rfl
  have := gen k n 0 h h0.symm
  simpa [rdW] using this
theorem rd4 {n : Nat} (h : n < 4294967296) : rdW (numB (n : Int) 4) = (n : Int) := rdWB 4 n (by omega) (by rw [Nat.div_eq_zero_iff]; right; omega)
theorem cutS_to (x r : List UInt8) (h : x.length < 4294967296) : cutS (partB x ++ r) = some (x, r) := by
  have e1 : partB x ++ r = numB (x.length : Int) 4 ++ (x ++ r) := by simp only [partB, List.append_assoc]
  have hl : (numB (x.length : Int) 4).length = 4 := numB_len _ _
  have e2 : (partB x ++ r).take 4 = numB (x.length : Int) 4 := by rw [e1, List.take_append_of_le_length (by omega), List.take_of_length_le (by omega)]
  have e3 : (partB x ++ r).drop 4 = x ++ r := by rw [e1, List.drop_append_of_le_length (by omega), List.drop_of_length_le (by omega)]; rfl
  have e4 : (partB x ++ r).length = 4 + (x.length + r.length) := by rw [e1, List.length_append, hl, List.length_append]
  unfold cutS
  rw [e2, rd4 h, if_neg (by omega), if_neg (by omega)]
  rw [Int.toNat_natCast, ← List.drop_drop, e3, List.take_append_of_le_length (Nat.le_refl _), List.take_length, List.drop_append_of_le_length (Nat.le_refl _), List.drop_length]
  rfl
theorem decL_to {α : Type} {g : List UInt8 → Option α} {enc : α → List UInt8} : ∀ (l : List α) (r : List UInt8), (∀ a ∈ l, g (enc a) = some a ∧ (enc a).length < 4294967296) → decL g l.length (l.flatMap (fun a => partB (enc a)) ++ r) = some (l, r)
  | [], r, _ => rfl
  | a :: l, r, h => by
    obtain ⟨h1, h2⟩ := h a (by simp)
    rw [List.length_cons, decL, List.flatMap_cons, List.append_assoc, cutS_to _ _ h2]
    dsimp only
    rw [h1]
    dsimp only
    rw [decL_to l r fun b hb => h b (List.mem_cons_of_mem _ hb)]
    rfl
theorem scanS_to : ∀ (l : List (List UInt8)) (f : Nat), l.length < f → (∀ x ∈ l, bigB x = false) → scanS f (l.flatMap pkOne) = (l, (l.flatMap pkOne).length)
  | [], f + 1, _, _ => rfl
  | a :: l, f + 1, hf, h => by
    have ha := h a (by simp)
    have hal : a.length ≤ 65535 := by have := of_decide_eq_false ha; omega
    have e1 : (a :: l).flatMap pkOne = kb ((a.length / 256 : Nat) : Int) :: kb (a.length : Int) :: (a ++ l.flatMap pkOne) := by
      rw [List.flatMap_cons, pkOne, Int.natCast_ediv]; rfl
    have e2 : 256 * (kb ((a.length / 256 : Nat) : Int)).toNat + (kb (a.length : Int)).toNat = a.length := by rw [kb_nat2, kb_nat2]; omega
    rw [e1, scanS]
    rw [e2, if_neg (by simp), List.take_append_of_le_length (Nat.le_refl _), List.take_length, List.drop_append_of_le_length (Nat.le_refl _), List.drop_length, List.nil_append]
    rw [scanS_to l f (by simpa using hf) fun x hx => h x (List.mem_cons_of_mem _ hx)]
    simp only [List.length_cons, List.length_append]
    congr 1
    omega
theorem parS_to {p : Par} (h : p.check = 0) (ho : p.Ok) : parS p.bytes = some p := by
  have ht := rPar_to (Par.right h) ho []
  rw [List.append_nil] at ht
  have e : rdP p.bytes = (p, 0) := by
    unfold rdP
    rw [ht]
    simp [h]
  unfold parS
  rw [e]
  rfl
theorem rdLet_to {x : Lt} (h : x.check = 0) (ho : x.ok) (hl : x.bytes.length ≤ 2097152) : rdLet x.bytes = (x, 0) := by
  have ht := rLet_to' h ho []
  rw [List.append_nil] at ht
  unfold rdLet rdL
  rw [if_neg (by omega), ht]
  simp [h]
theorem wayS_to {w : Wy} (h1 : w.badN = false) (h2 : ∀ x ∈ w.lets, x.check = 0 ∧ x.ok ∧ x.bytes.length ≤ 2097152) (h3 : w.big = false) : wayS (wayText w) = some w := by
  obtain ⟨fr, to, ls⟩ := w
  obtain ⟨b1, b2⟩ := badN_in h1
  dsimp only at b1 b2 h2
  have hbig : ∀ x ∈ ls.map Lt.bytes, bigB x = false := by
    intro x hx
    have := List.any_eq_false.1 h3 x hx
    simpa using this
  have e1 : wayText ⟨fr, to, ls⟩ = kb fr :: kb to :: (ls.map Lt.bytes).flatMap pkOne := rfl
  have hll : (ls.map Lt.bytes).length ≤ ((ls.map Lt.bytes).flatMap pkOne).length := by
    generalize ls.map Lt.bytes = l
    clear hbig e1
    induction l with
    | nil => simp
    | cons a l ih => simp only [List.length_cons, List.flatMap_cons, List.length_append, pkOne_len]; omega
  have e2 := scanS_to (ls.map Lt.bytes) (((ls.map Lt.bytes).flatMap pkOne).length + 1) (by omega) hbig
  rw [e1]
  unfold wayS
  dsimp only
  rw [e2]
  dsimp only
  rw [if_pos]
  · have k1 : ((kb fr).toNat : Int) = fr := kb_toNat ⟨by omega, by omega⟩
    have k2 : ((kb to).toNat : Int) = to := kb_toNat ⟨by omega, by omega⟩
    rw [k1, k2, List.map_map]
    congr 2
    conv => rhs; rw [← List.map_id ls]
    refine List.map_congr_left fun x hx => ?_
    obtain ⟨c1, c2, c3⟩ := h2 x hx
    show (rdLet x.bytes).1 = x
    rw [rdLet_to c1 c2 c3]
  · rw [Bool.and_eq_true]
    refine ⟨List.all_eq_true.2 fun y hy => ?_, by simp⟩
    obtain ⟨x, hx, rfl⟩ := List.mem_map.1 hy
    obtain ⟨c1, c2, c3⟩ := h2 x hx
    unfold letOk
    rw [rdLet_to c1 c2 c3]
    rfl
theorem rdW_snoc (l : List UInt8) (x : UInt8) : rdW (l ++ [x]) = stW (rdW l) x := by simp [rdW, List.foldl_append]
/-- numbers of eight bytes -/
theorem rd8 {n : Nat} (h : n ≤ 9223372036854775807) : rdW (numB (n : Int) 8) = (n : Int) := rdWB 8 n h (by rw [Nat.div_eq_zero_iff]; right; omega)
structure Snp.Ok (s : Snp) : Prop where
  par : ∀ p ∈ s.pars, p.Ok
  way : ∀ w ∈ s.ways, ∀ l ∈ w.lets, l.ok
  time : inI s.time
theorem Snp.Small.ok {s : Snp} (h : s.Small) : s.Ok := ⟨fun p hp => (h.par p hp).1.ok, fun w hw l hl => (h.way w hw l hl).1, h.time⟩
theorem Snp.not_big {s : Snp} (h : s.err = 0) : s.check = 0 ∧ (∀ w ∈ s.ways, w.big = false) ∧ s.out = s.bytes := by
  by_cases hc : s.check = 0
  · obtain ⟨e1, e2⟩ := Snp.err_eq hc
    by_cases hb : s.ways.any Wy.big = true
    · rw [e2, if_pos hb] at h; omega
    · rw [if_neg hb] at e1
      refine ⟨hc, fun w hw => ?_, e1⟩
      have := List.any_eq_false.1 (by simpa using hb) w hw
      simpa using this
  · rw [(Snp.err_ne hc).2] at h; exact absurd h hc
theorem head_at (s : Snp) (r : List UInt8) (h1 : s.pars.length ≤ 100) (h2 : s.ways.length ≤ 60) : (headB s ++ r).take 8 = numB s.time 8 ∧ ((headB s ++ r).getD 8 0).toNat = s.pars.length ∧ ((headB s ++ r).getD 9 0).toNat = s.ways.length ∧ (headB s ++ r).drop 10 = r ∧ ¬ (headB s ++ r).length < 10 := by
  have hl := numB_len s.time 8
  have e : headB s ++ r = numB s.time 8 ++ (kb (s.pars.length : Int) :: kb (s.ways.length : Int) :: r) := by simp [headB]
  have k1 := kb_nat2 s.pars.length
  have k2 := kb_nat2 s.ways.length
  rw [e]
  generalize numB s.time 8 = hd at *
  refine ⟨?_, ?_, ?_, ?_, ?_⟩
  · rw [List.take_append_of_le_length (by omega), List.take_of_length_le (by omega)]
  · rw [List.getD_eq_getElem?_getD, List.getElem?_append_right (by omega), hl]
    simp only [Nat.sub_self, List.getElem?_cons_zero, Option.getD_some]
    omega
  · rw [List.getD_eq_getElem?_getD, List.getElem?_append_right (by omega), hl]
    simp only [show 9 - 8 = 1 from rfl, List.getElem?_cons_succ, List.getElem?_cons_zero, Option.getD_some]
    omega
  · have e9 : hd ++ (kb (s.pars.length : Int) :: kb (s.ways.length : Int) :: r) = (hd ++ [kb (s.pars.length : Int), kb (s.ways.length : Int)]) ++ r := by simp
    have e10 : (hd ++ [kb (s.pars.length : Int), kb (s.ways.length : Int)]).length = 10 := by rw [List.length_append, hl]; rfl
    rw [e9, List.drop_append_of_le_length (by omega), List.drop_of_length_le (by omega)]
    rfl
  · simp only [List.length_append, List.length_cons]; omega
theorem decS_to {s : Snp} (h : s.err = 0) (ho : s.Ok) (hl : s.bytes.length ≤ 2097152) : decS s.bytes = some s := by
  obtain ⟨hc, hb, -⟩ := Snp.not_big h
  have hR := Snp.right hc
  have e0 : s.bytes = headB s ++ (s.pars.flatMap parPart ++ s.ways.flatMap wayPart) := by simp only [Snp.bytes, List.append_assoc]
  obtain ⟨a1, a2, a3, a4, a5⟩ := head_at s (s.pars.flatMap parPart ++ s.ways.flatMap wayPart) hR.pars hR.ways
  rw [← e0] at a1 a2 a3 a4 a5
  have hpl : ∀ p ∈ s.pars, p.bytes.length ≤ 2097152 := fun p hp => by
    have := flat_mem parPart hp
    rw [e0] at hl
    simp only [List.length_append] at hl
    unfold parPart at this
    rw [partB_len] at this
    have e : (List.flatMap (fun p => partB p.bytes) s.pars).length = (s.pars.flatMap parPart).length := rfl
    omega
  have hwl : ∀ w ∈ s.ways, (wayText w).length ≤ 2097152 := fun w hw => by
    have := flat_mem wayPart hw
    rw [e0] at hl
    simp only [List.length_append] at hl
    unfold wayPart at this
    rw [partB_len] at this
    have e : (List.flatMap (fun w => partB (wayText w)) s.ways).length = (s.ways.flatMap wayPart).length := rfl
    omega
  have d1 : decL parS s.pars.length (s.pars.flatMap parPart ++ s.ways.flatMap wayPart) = some (s.pars, s.ways.flatMap wayPart) :=
    decL_to (enc := Par.bytes) s.pars _ fun p hp => ⟨parS_to (hR.par p hp) (ho.par p hp), by have := hpl p hp; omega⟩
  have d2 : decL wayS s.ways.length (s.ways.flatMap wayPart) = some (s.ways, []) := by
    have := decL_to (g := wayS) (enc := wayText) s.ways [] fun w hw => ⟨wayS_to (hR.way w hw).1 (fun x hx => ⟨(hR.way w hw).2.2 x hx, ho.way w hw x hx, by
      have h1 := hwl w hw
      have h2 := flat_mem pkOne (List.mem_map_of_mem (f := Lt.bytes) hx)
      rw [pkOne_len] at h2
      simp only [wayText, List.length_append] at h1
      omega⟩) (hb w hw), by have := hwl w hw; omega⟩
    rw [List.append_nil] at this
    exact this
  have ht : rdW (numB s.time 8) = s.time := by
    have h0 := hR.time
    have h1 := ho.time
    unfold inI at h1
    obtain ⟨n, hn⟩ := nat_of h0
    rw [hn]
    exact rd8 (by omega)
  unfold decS
  rw [if_neg a5, a2, a4, d1]
  dsimp only
  rw [a3, d2]
  dsimp only
  rw [if_pos rfl, a1, ht]
theorem V.tiny_of {v : V} (h : v.check = 0) (ho : v.ok) (hl : v.bytes.length ≤ 34000000) : v.tiny := ⟨ho, by have := (check_ok h).1; omega, hl⟩
theorem Lt.small_of {x : Lt} (h : x.check = 0) (ho : x.ok) (hl : x.bytes.length ≤ 2097152) : x.tiny := by
  obtain ⟨k, fm, tt, n, t, v⟩ := x
  have hR := Lt.right h
  obtain ⟨h1, h2, h3, h4, h5⟩ := ho
  have hs := hR.size
  by_cases hk : k = 1
  · simp only [Lt.bytes, List.length_cons, List.length_append] at hl
    rw [if_pos hk] at hl
    exact Lt.tiny_of h1 h2 h3 (by omega) (V.tiny_of (hR.val hk) h4 (by omega))
  · rw [hR.zero hk]
    exact Lt.tiny_of h1 h2 h3 (by omega) zero_tiny
theorem Par.small_of {p : Par} (h : p.check = 0) (ho : p.Ok) (hl : p.bytes.length ≤ 2097152) : p.Small ∧ p.sav.state.length ≤ 1048576 := by
  have hR := Par.right h
  have hS := Sav.right hR.sav
  simp only [Par.bytes, Sav.bytes, List.length_append] at hl
  refine ⟨⟨⟨fun v hv => V.tiny_of (hS.state v hv) (ho.st v hv).1 (by have := flat_mem V.bytes hv; omega), fun x hx => ?_, by have := hS.actor; omega⟩, fun x hx => Lt.small_of (hR.box x hx) (ho.box x hx) (by have := flat_mem Lt.bytes hx; omega), ho.ref, ho.ticks, ho.wat, ho.lnk⟩, by have := hS.states; omega⟩
  have hr := Inp.right (hS.inp x hx)
  have h7 := flat_mem Inp.bytes hx
  by_cases hk : x.kind = 3
  · rw [hr.zero hk]; exact zero_tiny
  · rw [show (Inp.bytes x).length = x.val.bytes.length + 1 by simp [Inp.bytes, hk]] at h7
    exact V.tiny_of (hr.val hk) (ho.inp x hx).1 (by omega)
theorem zero_lt_tiny : Lt.zero.tiny := Lt.tiny_of (by simp [inI]) (by simp [inI]) (by simp [inI]) (by decide) zero_tiny
theorem zero_par_small : Par.zero.Small ∧ Par.zero.sav.state.length ≤ 1048576 := by
  refine ⟨⟨⟨fun v hv => ?_, fun v hv => ?_, by decide⟩, fun v hv => ?_, by simp [Par.zero, inI], by simp [Par.zero, inI], fun v hv => ?_, fun v hv => ?_⟩, by decide⟩ <;> simp [Par.zero, Sav.zero] at hv
theorem rdP_small (l : List UInt8) (hl : l.length ≤ 2097152) : (rdP l).1.Small ∧ (rdP l).1.sav.state.length ≤ 1048576 := by
  unfold rdP
  split
  · rename_i h1
    simp only [Bool.and_eq_true, Bool.not_eq_true', decide_eq_true_eq] at h1
    obtain ⟨⟨a1, a2⟩, a3⟩ := h1
    obtain ⟨b1, b2⟩ := rPar_ok' _ a1
    rw [a2, List.append_nil] at b1
    have hlv : l = (rPar ⟨l, false, 0⟩).1.bytes := by injection b1
    exact Par.small_of a3 (Par.fine_ok b2 (by rw [← hlv]; exact hl)) (by rw [← hlv]; exact hl)
  · exact zero_par_small
theorem rdLet_small (l : List UInt8) : (rdLet l).1.tiny := by
  unfold rdLet
  split
  · exact zero_lt_tiny
  · rename_i h0
    unfold rdL
    split
    · rename_i h1
      simp only [Bool.and_eq_true, Bool.not_eq_true', decide_eq_true_eq] at h1
      obtain ⟨⟨a1, a2⟩, a3⟩ := h1
      obtain ⟨b1, b2⟩ := rLet_ok' _ a1
      rw [a2, List.append_nil] at b1
      have hlv : l = (rLet ⟨l, false, 0⟩).1.bytes := by injection b1
      refine Lt.small_of a3 ?_ (by rw [← hlv]; omega)
      generalize (rLet ⟨l, false, 0⟩).1 = x at *
      obtain ⟨k, fm, tt, n, t, v⟩ := x
      simp only [Lt.fine] at b2
      obtain ⟨-, i1, i2, i3, i4, i5⟩ := b2
      have hvl : v.bytes.length ≤ 9223372036854775807 ∧ v.ok := by
        by_cases hk : k = 1
        · refine ⟨?_, (i4 hk).1⟩
          have hl := congrArg List.length hlv
          simp only [Lt.bytes, List.length_cons, List.length_append] at hl
          rw [if_pos hk] at hl
          omega
        · rw [i5 hk]; exact ⟨zero_ok.2, zero_ok.1⟩
      exact ⟨i1, i2, i3, hvl.2, hvl.1⟩
    · exact zero_lt_tiny
end Go.Proofs.YthgackidonocpaaGreat
namespace Go.Proofs.YthgackidonocpaaGreat
open Go.RowKit
theorem guard_slice {P : Program} {op : BinOp} {t : TypeId} {x y : Operand} {a b : Option Addr} {n c n' c' : Nat} (w : World) : (eqGuard op t x y (.slice a n c) (.slice b n' c')).run P w = .ok () w := by
  unfold eqGuard; simp
theorem run_nilS {P : Program} {t e : TypeId} (h : P.underlying t = some (.slice e)) (a : Option Addr) (n c : Nat) (w : World) : (Op.equal t (.slice a n c) (.slice none 0 0)).run P w = .ok a.isNone w := by
  rw [Op.equal, show Op.maxDepth = 9999 + 1 from rfl, Op.equalIn]
  simp only [Sem.run_bind, run_underlying h, Result.andThen_ok]
  cases a <;> rfl
section
variable {P : Program} {F : Frm} {L : Tab} {d : Option Tmp} {ty : TypeId} {pos : String} {aft : Array Edge} {g : Option (Nat × Bool)} {ρ : Operand → AV} {hp : List Blk} {K : AV → List Blk → Prop}
theorem zNs {t t' el : TypeId} {ti : TI} {x y : Operand} {n sz : Nat} {cs : List T} (h : ∀ b : Bool, (b = true → n = 0) → K (.c (.lit (.bool b))) hp) (hL : TabOk P L := by exact tok) (hx : ρ x = .c (.row n sz cs) := by exact rfl) (hy : ρ y = .c (.lit (.slice none 0 0)) := by exact rfl) (ht : L.look t = some ti := by exact rfl) (hd : ti.d = .slice el := by exact rfl) : LO P F ⟨d, .binOp .eql t x y t', ty, pos, aft, g⟩ ρ hp K := by
  refine ⟨fun M e w he hh => ?_⟩
  have h1 := he x (by first | (simp [Op.operands]; done) | simp [Op.operands, Call.operands])
  rw [hx] at h1
  have h2 := he y (by first | (simp [Op.operands]; done) | simp [Op.operands, Call.operands])
  rw [hy] at h2
  simp only [RA, RT] at h1 h2
  obtain ⟨A, c, xs, hu, hc, hn, h0, hl, hat, hrt⟩ := h1
  have hr : (execOp e ⟨d, .binOp .eql t x y t', ty, pos, aft, g⟩).run P w = .ok (.value (.bool A.isNone)) w := by
    simp [execOp, hu, h2, guard_slice, binOp, run_nilS (hL.slice ht hd)]
  rw [hr]
  refine ⟨M, _, hp, h A.isNone fun hb => ?_, Ext.refl _ _, hh, by simp only [RA, RT]⟩
  rcases Nat.eq_zero_or_pos n with h3 | h3
  · exact h3
  · obtain ⟨ad, rfl, _⟩ := hat h3
    cases hb
theorem zPmb {t el : TypeId} {ti te : TI} {x y z : Operand} {l : List UInt8} {k k' : IntKind} {a b : Int} (m q : Nat) (hm : m ≤ q) (hq : q ≤ l.length) (hK : K (.c (bytRow ((l.drop m).take (q - m)))) hp) (hz : a = (m : Int) := by first | exact rfl | assumption) (hz' : b = (q : Int) := by first | exact rfl | assumption) (hL : TabOk P L := by exact tok) (hx : ρ x = .c (bytRow l) := by exact rfl) (hy : ρ y = .c (.lit (.int k a)) := by exact rfl) (hy' : ρ z = .c (.lit (.int k' b)) := by exact rfl) (ht : L.look t = some ti := by exact rfl) (hd : ti.d = .slice el := by exact rfl) (hte : L.look el = some te := by exact rfl) (hsz : te.size = 1 := by exact rfl) :
    LO P F ⟨d, .slice t x (some y) (some z) none, ty, pos, aft, g⟩ ρ hp K := by
  refine LO.same (fun M e w he _ => ?_) hK
  have h1 := he x (by simp [Op.operands])
  rw [hx] at h1
  simp only [RA] at h1
  have h2 := he y (by simp [Op.operands])
  rw [hy] at h2
  have h4 := he z (by simp [Op.operands])
  rw [hy'] at h4
  simp only [RA, RT] at h2 h4
  have h3 := h1
  simp only [bytRow, RT] at h3
  obtain ⟨A, c, xs, hu, hc, _⟩ := h3
  rw [hu] at h1
  have hp := rt_part (l := m) (h := q) h1 hm hq
  refine ⟨_, ?_, by
    simp only [RA]
    have e1 : (byts l).drop (m * 1) = byts (l.drop m) := by simp [byts, List.map_drop]
    have e2 : (byts (l.drop m)).take ((q - m) * 1) = byts ((l.drop m).take (q - m)) := by simp [byts, List.map_take]
    rw [e1, e2] at hp
    have e3 : ((l.drop m).take (q - m)).length = q - m := by simp; omega
    simpa [bytRow, e3] using hp⟩
  subst hz
  subst hz'
  have hb := run_sliceBound (P := P) (w := w) k' (q : Int) c .sliceAcap (by omega) (by omega)
  have hb2 := run_sliceBound (P := P) (w := w) k (m : Int) q .sliceB (by omega) (by omega)
  simp [execOp, Instr.sliceAt, Instr.slice, Instr.sliceBounds, hu, h2, h4, run_underlying (hL.slice ht hd), hL.sizeOf hte, hb, hb2, hsz]
theorem zSix {t : TypeId} {ti : TI} {x y : Operand} {l : List UInt8} {k : IntKind} {a : Int} {b : UInt8} (m : Nat) (hb : l[m]? = some b) (hK : K (.c (.lit (.int .u8 (b.toNat : Int)))) hp) (hz : a = (m : Int) := by exact rfl) (hL : TabOk P L := by exact tok) (hx : ρ x = .c (.lit (.string (bs l))) := by exact rfl) (hy : ρ y = .c (.lit (.int k a)) := by exact rfl) (ht : L.look t = some ti := by exact rfl) (hd : ti.d = .string := by exact rfl) : LO P F ⟨d, .index t x y, ty, pos, aft, g⟩ ρ hp K := by
  refine LO.same (fun M e w he _ => ?_) hK
  have h1 := he x (by simp [Op.operands])
  rw [hx] at h1
  have h2 := he y (by simp [Op.operands])
  rw [hy] at h2
  simp only [RA, RT] at h1 h2
  subst hz
  refine ⟨.int .u8 (b.toNat : Int), ?_, by simp only [RA, RT]⟩
  obtain ⟨hm, hlm⟩ := List.getElem?_eq_some_iff.1 hb
  have hsz : (bs l).size = l.length := bs_size' l
  have hi := run_index_string (P := P) w t (bs l) k (m : Int) (hL.string ht hd)
  rw [dif_pos ⟨by omega, by omega⟩] at hi
  have hel : (bs l)[(m : Int).toNat]'(by omega) = b := by
    subst hlm
    simp [bs, ByteArray.getElem_eq_getElem_data]
  rw [hel] at hi
  simp [execOp, h1, h2, hi]
theorem zSpl {t : TypeId} {ti : TI} {x y : Operand} {l : List UInt8} {k : IntKind} {a : Int} (m : Nat) (hm : m ≤ l.length) (hK : K (.c (.lit (.string (bs (l.drop m))))) hp) (hz : a = (m : Int) := by exact rfl) (hL : TabOk P L := by exact tok) (hx : ρ x = .c (.lit (.string (bs l))) := by exact rfl) (hy : ρ y = .c (.lit (.int k a)) := by exact rfl) (ht : L.look t = some ti := by exact rfl) (hd : ti.d = .string := by exact rfl) : LO P F ⟨d, .slice t x (some y) none none, ty, pos, aft, g⟩ ρ hp K := by
  refine LO.same (fun M e w he _ => ?_) hK
  have h1 := he x (by simp [Op.operands])
  rw [hx] at h1
  have h2 := he y (by simp [Op.operands])
  rw [hy] at h2
  simp only [RA, RT] at h1 h2
  subst hz
  refine ⟨.string (bs (l.drop m)), ?_, by simp only [RA, RT]⟩
  have hsz : (bs l).size = l.length := bs_size' l
  have hb := run_sliceBound (P := P) (w := w) k (m : Int) l.length .sliceB (by omega) (by omega)
  have he : (bs l).extract m l.length = bs (l.drop m) := by
    unfold bs
    rw [ByteArray.extract_mk, List.take_of_length_le (by simp)]
  simp [execOp, Instr.sliceAt, Instr.slice, Instr.sliceBounds, h1, h2, run_underlying (hL.string ht hd), hsz, hb, he]
end
end Go.Proofs.YthgackidonocpaaGreat
