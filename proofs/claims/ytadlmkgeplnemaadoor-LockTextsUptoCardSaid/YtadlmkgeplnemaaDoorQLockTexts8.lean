/-
  Texts of this proof, part 8: Lkl Lkm Lkn Open.
-/
import Derived.Test.YtadlmkgeplnemaaDoorQLockTexts7
import Derived.ChangeKeysEq
import Derived.Deep.Slices
import Derived.JoinedCond
import Derived.Laws.IdiomRangeMap
import Derived.Laws.StructEq
import Derived.Lib.AppendZerosOnto
import Derived.Lib.MinMax
import Derived.MapKept
import Derived.OpenShut
import Derived.ProofKit
import Derived.Test.YtadlmkgeplnemaaDoorRows
namespace Go.Proofs.YtadlmkgeplnemaaDoor
open Go.RowKit
def tkTo (l : List Pk) (k : Nat) : List UInt8 := txL ((l.take k).map lnOf)
theorem tkTo_snoc {l : List Pk} {k : Nat} {p : Pk} (h : l[k]? = some p) : tkTo l (k + 1) = tkTo l k ++ lnL (lnOf p) := by
  obtain ⟨h1, rfl⟩ := List.getElem?_eq_some_iff.1 h
  unfold tkTo
  rw [List.take_succ_eq_append_getElem h1, List.map_append, List.map_singleton, txL_snoc]
theorem pk_bs (p : Pk) : ∃ nm v, p = ⟨bs nm, v⟩ := ⟨p.name.data.toList, p.version, by cases p; simp [bs_self]⟩
set_option maxRecDepth 100000 in
set_option maxHeartbeats 4000000 in
theorem lText_af (l : List Pk) (hs : ∀ p ∈ l, p.name.size ≤ 1048576) : AF Tryd.prog 6 [Pk.row l] (· = .tup [.lit (.string (lkT l).1), .lit (.int .i64 (lkT l).2)]) := by
  have hck := lockCheck_af l hs
  unfold lkT
  cases d : decide (lockF l = 0)
  · rw [cond_false]
    dsimp only
    generalize lockF l = e at *
    refine af_enter tok Tryd.func6 Tryd.ntmps6 Tryd.results6 rfl (by kernel_rfl) rfl rfl fun F hX => ?_
    repeat (first | refine gG ?_ | refine zN1 (fun hlen => ?_) | refine zN2 (fun hlen => ?_) | refine zAl (fun _ => ?_))
    refine zCall (hck) ?_
    rintro _ rfl
    repeat (first | refine gG ?_ | refine zN1 (fun hlen => ?_) | refine zN2 (fun hlen => ?_) | refine zAl (fun _ => ?_))
    first | refine zR ?_ | refine zQ ?_
    rfl
  have hf := of_decide_eq_true d
  rw [hf] at hck
  have hk := lockF_ok hf
  have h30 := hk.len
  rw [cond_true]
  dsimp only
  clear hf d
  refine af_enter tok Tryd.func6 Tryd.ntmps6 Tryd.results6 rfl (by kernel_rfl) rfl rfl fun F hX => ?_
  repeat (first | refine gG ?_ | refine zN1 (fun hlen => ?_) | refine zN2 (fun hlen => ?_) | refine zAl (fun _ => ?_))
  refine zCall (hck) ?_
  rintro _ rfl
  clear hck
  repeat (first | refine gG ?_ | refine zN1 (fun hlen => ?_) | refine zN2 (fun hlen => ?_) | refine zAl (fun _ => ?_))
  refine x_loop [5, 7, 15, 16, 17, 18, 19, 20, 21, 22, 23, 24, 25, 26, 27, 28, 29] (fun k : Nat => [(15, .c (.lit (.int .i64 (k : Nat)))), (5, .c (.lit (.string (bs (tkTo l k)))))]) (fun _ => []) (fun k => k ≤ l.length) (fun k => l.length - k) 0 (Nat.zero_le _) ⟨rfl, rfl, trivial⟩ rfl ?_
  rintro k hk0
  repeat (first | refine gG ?_ | refine zN1 (fun hlen => ?_) | refine zN2 (fun hlen => ?_) | refine zAl (fun _ => ?_))
  refine x_cond rfl (fun h => ?_) (fun h => ?_)
  · have hk' : k < l.length := by simpa using h
    obtain ⟨p, hp⟩ := nth hk'
    have hm := List.mem_of_getElem? hp
    have hat := Pk.at hp
    have hsn := tkTo_snoc hp
    have hle : (tkTo l k).length ≤ 2000 := by
      have := txL_len hk k
      unfold tkTo
      omega
    have hv := hk.ver p hm
    have hz := nameOk_size (hk.name p hm)
    have ha := itoa_af p.version ⟨by omega, by omega⟩
    have la := itoa_len (v := p.version) (by omega) (by omega)
    generalize tkTo l k = T0 at *
    generalize hT1 : tkTo l (k + 1) = T1 at *
    clear h hp hm hk hs
    obtain ⟨nm, v, rfl⟩ := pk_bs p
    dsimp only at *
    rw [bs_data'] at hz
    have hl2 : lnL (lnOf ⟨bs nm, v⟩) = nm ++ [32] ++ Lib.itoa v ++ [10] := by simp [lnL, lnOf, bs]
    rw [hl2] at hsn
    subst hsn
    clear hl2
    generalize Lib.itoa v = ia at *
    repeat (first | refine gG ?_ | refine zN1 (fun hlen => ?_) | refine zN2 (fun hlen => ?_) | refine zAl (fun _ => ?_))
    refine zIx (k) (hk') ?_
    repeat (first | refine gG ?_ | refine zN1 (fun hlen => ?_) | refine zN2 (fun hlen => ?_) | refine zAl (fun _ => ?_))
    refine zEl (hat) (Pk.ts_len _) ?_
    repeat (first | refine gG ?_ | refine zN1 (fun hlen => ?_) | refine zN2 (fun hlen => ?_) | refine zAl (fun _ => ?_))
    refine ac_draw [1, 1, 1, 1, 1, 1, 1, 1, 1, 1, 1] [0, 1, 2, 3, 4, 5, 6, 7, 8, 9, 10] (by kernel_rfl) (by kernel_rfl) ?_
    refine gW ?_
    apply w_q; (focus exact rfl); (focus exact rfl); focus (intro _; (refine zCatb nm [32] (by simp; omega) ?_); exact det_refl)
    refine gW ?_
    apply w_q; (focus exact rfl); (focus exact rfl); focus (intro _; (refine zCall ha ?_; rintro _ rfl); exact det_refl)
    apply w_q; (focus exact rfl); (focus exact rfl); focus (intro _; (refine zCatb (nm ++ [32]) ia (by simp; omega) ?_); exact det_refl)
    apply w_q; (focus exact rfl); (focus exact rfl); focus (intro _; (refine zCatb (nm ++ [32] ++ ia) [10] (by simp; omega) ?_); exact det_refl)
    apply w_q; (focus exact rfl); (focus exact rfl); focus (intro _; (refine zCatb T0 (nm ++ [32] ++ ia ++ [10]) (by simp; omega) ?_); exact det_refl)
    refine gW ?_
    refine w_nil ?_
    repeat (first | refine gG ?_ | refine zN1 (fun hlen => ?_) | refine zN2 (fun hlen => ?_) | refine zAl (fun _ => ?_))
    exact ⟨k + 1, hk', by omega, x_wkd 0 ⟨rfl, by rw [hT1]; rfl, trivial⟩ rfl (by repeat (first | exact ag_refl | refine ag_upd rfl ?_ | refine ag_at rfl rfl ?_))⟩
  have hk' : k = l.length := by have : ¬ k < l.length := by simpa using h
                                omega
  subst hk'
  clear h hk0 hk
  have hvt : tkTo l l.length = txL (l.map lnOf) := by unfold tkTo; rw [List.take_length]
  rw [hvt]
  repeat (first | refine gG ?_ | refine zN1 (fun hlen => ?_) | refine zN2 (fun hlen => ?_) | refine zAl (fun _ => ?_))
  first | refine zR ?_ | refine zQ ?_
  rfl
set_option maxRecDepth 100000 in
set_option maxHeartbeats 4000000 in
theorem refLText_af (l : List Pk) (hs : ∀ p ∈ l, p.name.size ≤ 1048576) : AF Tryd.prog 7 [Pk.row l] (· = .tup [.lit (.string (lkT l).1), .lit (.int .i64 (lkT l).2)]) := by
  have hck := lockFault_af l hs
  unfold lkT
  cases d : decide (lockF l = 0)
  · rw [cond_false]
    dsimp only
    generalize lockF l = e at *
    refine af_enter tok Tryd.func7 Tryd.ntmps7 Tryd.results7 rfl (by kernel_rfl) rfl rfl fun F hX => ?_
    repeat (first | refine gG ?_ | refine zN1 (fun hlen => ?_) | refine zN2 (fun hlen => ?_) | refine zAl (fun _ => ?_))
    refine zCall (hck) ?_
    rintro _ rfl
    repeat (first | refine gG ?_ | refine zN1 (fun hlen => ?_) | refine zN2 (fun hlen => ?_) | refine zAl (fun _ => ?_))
    first | refine zR ?_ | refine zQ ?_
    rfl
  have hf := of_decide_eq_true d
  rw [hf] at hck
  have hk := lockF_ok hf
  have h30 := hk.len
  rw [cond_true]
  dsimp only
  clear hf d
  refine af_enter tok Tryd.func7 Tryd.ntmps7 Tryd.results7 rfl (by kernel_rfl) rfl rfl fun F hX => ?_
  repeat (first | refine gG ?_ | refine zN1 (fun hlen => ?_) | refine zN2 (fun hlen => ?_) | refine zAl (fun _ => ?_))
  refine zCall (hck) ?_
  rintro _ rfl
  clear hck
  repeat (first | refine gG ?_ | refine zN1 (fun hlen => ?_) | refine zN2 (fun hlen => ?_) | refine zAl (fun _ => ?_))
  refine x_loop [5, 7, 15, 16, 17, 18, 19, 20, 21, 22, 23, 24, 25, 26, 27, 28, 29] (fun k : Nat => [(15, .c (.lit (.int .i64 (k : Nat)))), (5, .c (.lit (.string (bs (tkTo l k)))))]) (fun _ => []) (fun k => k ≤ l.length) (fun k => l.length - k) 0 (Nat.zero_le _) ⟨rfl, rfl, trivial⟩ rfl ?_
  rintro k hk0
  repeat (first | refine gG ?_ | refine zN1 (fun hlen => ?_) | refine zN2 (fun hlen => ?_) | refine zAl (fun _ => ?_))
  refine x_cond rfl (fun h => ?_) (fun h => ?_)
  · have hk' : k < l.length := by simpa using h
    obtain ⟨p, hp⟩ := nth hk'
    have hm := List.mem_of_getElem? hp
    have hat := Pk.at hp
    have hsn := tkTo_snoc hp
    have hle : (tkTo l k).length ≤ 2000 := by
      have := txL_len hk k
      unfold tkTo
      omega
    have hv := hk.ver p hm
    have hz := nameOk_size (hk.name p hm)
    have ha := itoa_af p.version ⟨by omega, by omega⟩
    have la := itoa_len (v := p.version) (by omega) (by omega)
    generalize tkTo l k = T0 at *
    generalize hT1 : tkTo l (k + 1) = T1 at *
    clear h hp hm hk hs
    obtain ⟨nm, v, rfl⟩ := pk_bs p
    dsimp only at *
    rw [bs_data'] at hz
    have hl2 : lnL (lnOf ⟨bs nm, v⟩) = nm ++ [32] ++ Lib.itoa v ++ [10] := by simp [lnL, lnOf, bs]
    rw [hl2] at hsn
    subst hsn
    clear hl2
    generalize Lib.itoa v = ia at *
    repeat (first | refine gG ?_ | refine zN1 (fun hlen => ?_) | refine zN2 (fun hlen => ?_) | refine zAl (fun _ => ?_))
    refine zIx (k) (hk') ?_
    repeat (first | refine gG ?_ | refine zN1 (fun hlen => ?_) | refine zN2 (fun hlen => ?_) | refine zAl (fun _ => ?_))
    refine zEl (hat) (Pk.ts_len _) ?_
    repeat (first | refine gG ?_ | refine zN1 (fun hlen => ?_) | refine zN2 (fun hlen => ?_) | refine zAl (fun _ => ?_))
    refine ac_draw [1, 1, 1, 1, 1, 1, 1, 1, 1, 1, 1] [0, 1, 2, 3, 4, 5, 6, 7, 8, 9, 10] (by kernel_rfl) (by kernel_rfl) ?_
    refine gW ?_
    apply w_q; (focus exact rfl); (focus exact rfl); focus (intro _; (refine zCatb nm [32] (by simp; omega) ?_); exact det_refl)
    refine gW ?_
    apply w_q; (focus exact rfl); (focus exact rfl); focus (intro _; (refine zCall ha ?_; rintro _ rfl); exact det_refl)
    apply w_q; (focus exact rfl); (focus exact rfl); focus (intro _; (refine zCatb (nm ++ [32]) ia (by simp; omega) ?_); exact det_refl)
    apply w_q; (focus exact rfl); (focus exact rfl); focus (intro _; (refine zCatb (nm ++ [32] ++ ia) [10] (by simp; omega) ?_); exact det_refl)
    apply w_q; (focus exact rfl); (focus exact rfl); focus (intro _; (refine zCatb T0 (nm ++ [32] ++ ia ++ [10]) (by simp; omega) ?_); exact det_refl)
    refine gW ?_
    refine w_nil ?_
    repeat (first | refine gG ?_ | refine zN1 (fun hlen => ?_) | refine zN2 (fun hlen => ?_) | refine zAl (fun _ => ?_))
    exact ⟨k + 1, hk', by omega, x_wkd 0 ⟨rfl, by rw [hT1]; rfl, trivial⟩ rfl (by repeat (first | exact ag_refl | refine ag_upd rfl ?_ | refine ag_at rfl rfl ?_))⟩
  have hk' : k = l.length := by have : ¬ k < l.length := by simpa using h
                                omega
  subst hk'
  clear h hk0 hk
  have hvt : tkTo l l.length = txL (l.map lnOf) := by unfold tkTo; rw [List.take_length]
  rw [hvt]
  repeat (first | refine gG ?_ | refine zN1 (fun hlen => ?_) | refine zN2 (fun hlen => ?_) | refine zAl (fun _ => ?_))
  first | refine zR ?_ | refine zQ ?_
  rfl
def resK (r : List Pk × Int) : T := .tup [Pk.row r.1, .lit (.int .i64 r.2)]
theorem fieldsR_two {line : List UInt8} {a b : ByteArray} (h : splS (bs line) ⟨#[32]⟩ = [a, b]) : fieldsR line = match atoiO b with | some v => some (a.data.toList, v) | none => none := by
  have hd := splS_data (bs line) ⟨#[32]⟩
  rw [h, bs_data'] at hd
  change _ = Lib.split line [32] at hd
  unfold fieldsR atoiO
  rw [← hd]
  simp only [List.map_cons, List.map_nil]
  cases Lib.atoiAll b.data.toList <;> rfl
theorem fieldsR_not {line : List UInt8} (h : (splS (bs line) ⟨#[32]⟩).length ≠ 2) : fieldsR line = none := by
  have hd := splS_data (bs line) ⟨#[32]⟩
  rw [bs_data'] at hd
  change _ = Lib.split line [32] at hd
  have hl : (Lib.split line [32]).length ≠ 2 := by rw [← hd, List.length_map]; exact h
  unfold fieldsR
  split
  · rename_i a b he
    rw [he] at hl
    exact absurd rfl hl
  · rfl
theorem two_of {α : Type} {l : List α} (h : l.length = 2) : ∃ a b, l = [a, b] := match l, h with | [a, b], _ => ⟨a, b, rfl⟩
set_option maxRecDepth 100000 in
set_option maxHeartbeats 8000000 in
theorem lOf_af (s : ByteArray) (hs : s.size < 1048576) : AF Tryd.prog 9 [.lit (.string s)] (· = resK (rdK s (rfR s))) := by
  unfold rfR
  obtain ⟨s0, rfl⟩ : ∃ s0, s = bs s0 := ⟨_, (bs_self s).symm⟩
  rw [bs_data']
  rw [bs_size'] at hs
  generalize hR : parseR s0 [] = R0
  refine af_enter tok Tryd.func9 Tryd.ntmps9 Tryd.results9 rfl (by kernel_rfl) rfl rfl fun F hX => ?_
  repeat (first | refine gG ?_ | refine zN1 (fun hlen => ?_) | refine zN2 (fun hlen => ?_) | refine zAp (fun _ => ?_))
  refine x_own 4 27 2 rfl rfl rfl rfl rfl ?_
  refine x_loop [2, 3, 4, 5, 6, 7, 8, 9, 13, 14, 15, 16, 17, 18, 19, 20, 21, 22, 23, 24, 25, 26, 27, 28, 29, 30, 31, 32, 33, 34, 35, 36, 37, 38, 39, 40, 41, 42, 43, 44, 45, 46] (fun y : List UInt8 × Value × List Pk => [(5, .c (.lit (.string (bs y.1)))), (4, .own 0 y.2.1)]) (fun y => [.row y.2.1 27 2 y.2.2.length (y.2.2.flatMap Pk.ts)]) (fun y => y.1.length + y.2.2.length ≤ s0.length ∧ (∀ p ∈ y.2.2, p.name.size ≤ 1048576) ∧ parseR y.1 (y.2.2.map lnOf) = R0) (fun y => y.1.length) (s0, .slice none 0 0, []) ⟨by simp, fun p hp => (by cases hp), hR⟩ ⟨rfl, rfl, trivial⟩ rfl ?_
  rintro ⟨r, v, acc⟩ ⟨hlen, hnm, hO⟩
  dsimp only at hlen hnm hO ⊢
  repeat (first | refine gG ?_ | refine zN1 (fun hlen => ?_) | refine zN2 (fun hlen => ?_) | refine zAp (fun _ => ?_))
  refine x_cond rfl (fun h => ?_) (fun h => ?_)
  · have hr : r ≠ [] := by
      rintro rfl
      simp [bs] at h
    rw [parseR, dif_neg hr] at hO
    have hix := index_af (bs r) (bs [10]) (by rw [bs_size']; omega)
    rw [bs_data', bs_data'] at hix
    have hlt := @index_lt 10 r
    clear h
    generalize Lib.index r [10] = ix at *
    by_cases h0 : 0 ≤ ix
    · obtain ⟨kk, rfl⟩ := Int.eq_ofNat_of_zero_le h0
      have hkk := hlt h0
      rw [Int.toNat_natCast] at hkk
      rw [if_pos h0, Int.toNat_natCast] at hO
      have d0 : decide ((kk : Int) < 0) = false := decide_eq_false (by omega)
      have hsz : (bs (r.take kk)).size ≤ 1048576 := by rw [bs_size', List.length_take]; omega
      have hsp := split_af (bs (r.take kk)) ⟨#[32]⟩ hsz (by decide)
      have hml := splS_le (bs (r.take kk)) ⟨#[32]⟩ (by decide)
      have hel : ∀ x ∈ splS (bs (r.take kk)) ⟨#[32]⟩, x.size ≤ 1048576 := fun x hx => by have := splS_size hx; omega
      clear h0 hlt
      by_cases h2 : (splS (bs (r.take kk)) ⟨#[32]⟩).length = 2
      · obtain ⟨m1, m2, hM⟩ := two_of h2
        rw [fieldsR_two hM] at hO
        rw [hM] at hsp hel
        have s1 := hel m1 (by simp)
        have s2 := hel m2 (by simp)
        have d2 : decide ((([m1, m2].length : Nat) : Int) = 2) = true := decide_eq_true (by simp)
        clear hM h2 hel hml hsz
        cases ha : atoiO m2 with
        | none =>
          have q := atoi_bad ha s2
          rw [ha] at hO
          dsimp only at hO
          repeat (first | refine gG ?_ | refine zN1 (fun hlen => ?_) | refine zN2 (fun hlen => ?_) | refine zAp (fun _ => ?_))
          refine zCall (hix) ?_
          rintro _ rfl
          repeat (first | refine gG ?_ | refine zN1 (fun hlen => ?_) | refine zN2 (fun hlen => ?_) | refine zAp (fun _ => ?_))
          refine zSpt (l := r) kk (by omega) ?_
          repeat (first | refine gG ?_ | refine zN1 (fun hlen => ?_) | refine zN2 (fun hlen => ?_) | refine zAp (fun _ => ?_))
          refine zCall (hsp) ?_
          rintro _ rfl
          repeat (first | refine gG ?_ | refine zN1 (fun hlen => ?_) | refine zN2 (fun hlen => ?_) | refine zAp (fun _ => ?_))
          refine zSpl (l := r) (kk + 1) (by omega) ?_
          repeat (first | refine gG ?_ | refine zN1 (fun hlen => ?_) | refine zN2 (fun hlen => ?_) | refine zAp (fun _ => ?_))
          refine zIx (n := [m1, m2].length) 1 (by simp) ?_
          repeat (first | refine gG ?_ | refine zN1 (fun hlen => ?_) | refine zN2 (fun hlen => ?_) | refine zAp (fun _ => ?_))
          refine zCall (q) ?_
          rintro _ ⟨x1, t1, p1, rfl⟩
          repeat (first | refine gG ?_ | refine zN1 (fun hlen => ?_) | refine zN2 (fun hlen => ?_) | refine zAp (fun _ => ?_))
          refine zEr1 ?_
          repeat (first | refine gG ?_ | refine zN1 (fun hlen => ?_) | refine zN2 (fun hlen => ?_) | refine zAp (fun _ => ?_))
          first | refine zR (ts := [Pk.row [], .lit (.int .i64 3)]) ?_ | refine zQ (ts := [Pk.row [], .lit (.int .i64 3)]) ?_
          rw [← hO]
          rfl
        | some n =>
          have q := atoi_af ha s2
          rw [ha] at hO
          dsimp only at hO
          repeat (first | refine gG ?_ | refine zN1 (fun hlen => ?_) | refine zN2 (fun hlen => ?_) | refine zAp (fun _ => ?_))
          refine zCall (hix) ?_
          rintro _ rfl
          repeat (first | refine gG ?_ | refine zN1 (fun hlen => ?_) | refine zN2 (fun hlen => ?_) | refine zAp (fun _ => ?_))
          refine zSpt (l := r) kk (by omega) ?_
          repeat (first | refine gG ?_ | refine zN1 (fun hlen => ?_) | refine zN2 (fun hlen => ?_) | refine zAp (fun _ => ?_))
          refine zCall (hsp) ?_
          rintro _ rfl
          repeat (first | refine gG ?_ | refine zN1 (fun hlen => ?_) | refine zN2 (fun hlen => ?_) | refine zAp (fun _ => ?_))
          refine zSpl (l := r) (kk + 1) (by omega) ?_
          repeat (first | refine gG ?_ | refine zN1 (fun hlen => ?_) | refine zN2 (fun hlen => ?_) | refine zAp (fun _ => ?_))
          refine zIx (n := [m1, m2].length) 1 (by simp) ?_
          repeat (first | refine gG ?_ | refine zN1 (fun hlen => ?_) | refine zN2 (fun hlen => ?_) | refine zAp (fun _ => ?_))
          refine zCall (q) ?_
          rintro _ rfl
          repeat (first | refine gG ?_ | refine zN1 (fun hlen => ?_) | refine zN2 (fun hlen => ?_) | refine zAp (fun _ => ?_))
          refine zEr0 ?_
          repeat (first | refine gG ?_ | refine zN1 (fun hlen => ?_) | refine zN2 (fun hlen => ?_) | refine zAp (fun _ => ?_))
          refine zIx (n := [m1, m2].length) 0 (by simp) ?_
          repeat (first | refine gG ?_ | refine zN1 (fun hlen => ?_) | refine zN2 (fun hlen => ?_) | refine zAp (fun _ => ?_))
          exact ⟨(r.drop (kk + 1), _, acc ++ [⟨m1, n⟩]), ⟨by simp only [List.length_append, List.length_singleton, List.length_drop]; omega, fun p hp => by
            rcases List.mem_append.1 hp with hp | hp
            · exact hnm p hp
            · rw [List.mem_singleton] at hp; subst hp; exact s1, by rw [List.map_append]; exact hO⟩, by simp only [List.length_drop]; omega, x_wkd 1 ⟨rfl, rfl, trivial⟩ (by dsimp only; simp only [List.length_append, List.flatMap_append]; rfl) (by repeat (first | exact ag_refl | refine ag_upd rfl ?_ | refine ag_at rfl rfl ?_))⟩
      · rw [fieldsR_not h2] at hO
        have d2 : decide (((splS (bs (r.take kk)) ⟨#[32]⟩).length : Int) = 2) = false := decide_eq_false (by omega)
        clear h2 hel hsz
        generalize splS (bs (r.take kk)) ⟨#[32]⟩ = M at *
        repeat (first | refine gG ?_ | refine zN1 (fun hlen => ?_) | refine zN2 (fun hlen => ?_) | refine zAp (fun _ => ?_))
        refine zCall (hix) ?_
        rintro _ rfl
        repeat (first | refine gG ?_ | refine zN1 (fun hlen => ?_) | refine zN2 (fun hlen => ?_) | refine zAp (fun _ => ?_))
        refine zSpt (l := r) kk (by omega) ?_
        repeat (first | refine gG ?_ | refine zN1 (fun hlen => ?_) | refine zN2 (fun hlen => ?_) | refine zAp (fun _ => ?_))
        refine zCall (hsp) ?_
        rintro _ rfl
        repeat (first | refine gG ?_ | refine zN1 (fun hlen => ?_) | refine zN2 (fun hlen => ?_) | refine zAp (fun _ => ?_))
        refine zSpl (l := r) (kk + 1) (by omega) ?_
        repeat (first | refine gG ?_ | refine zN1 (fun hlen => ?_) | refine zN2 (fun hlen => ?_) | refine zAp (fun _ => ?_))
        first | refine zR (ts := [Pk.row [], .lit (.int .i64 3)]) ?_ | refine zQ (ts := [Pk.row [], .lit (.int .i64 3)]) ?_
        rw [← hO]
        rfl
    · rw [if_neg h0] at hO
      have d0 : decide (ix < 0) = true := decide_eq_true (by omega)
      clear hlt h0
      repeat (first | refine gG ?_ | refine zN1 (fun hlen => ?_) | refine zN2 (fun hlen => ?_) | refine zAp (fun _ => ?_))
      refine zCall (hix) ?_
      rintro _ rfl
      repeat (first | refine gG ?_ | refine zN1 (fun hlen => ?_) | refine zN2 (fun hlen => ?_) | refine zAp (fun _ => ?_))
      first | refine zR (ts := [Pk.row [], .lit (.int .i64 3)]) ?_ | refine zQ (ts := [Pk.row [], .lit (.int .i64 3)]) ?_
      rw [← hO]
      rfl
  have hr : r = [] := by
    cases r with
    | nil => rfl
    | cons c r => simp [bs] at h
  subst hr
  rw [parseR, dif_pos rfl] at hO
  have htx := refLText_af acc hnm
  rw [← hO]
  clear h hO hR hlen hnm
  unfold rdK
  simp only [Option.map_some, pks_lns]
  refine x_fz 4 rfl rfl rfl rfl ?_
  refine x_drop 0 rfl ?_
  generalize lkT acc = tv at *
  obtain ⟨tt, te⟩ := tv
  dsimp only at htx ⊢
  cases d1 : decide (te = 0)
  · rw [Bool.false_and, cond_false]
    repeat (first | refine gG ?_ | refine zN1 (fun hlen => ?_) | refine zN2 (fun hlen => ?_) | refine zAp (fun _ => ?_))
    refine zCall (htx) ?_
    rintro _ rfl
    repeat (first | refine gG ?_ | refine zN1 (fun hlen => ?_) | refine zN2 (fun hlen => ?_) | refine zAp (fun _ => ?_))
    first | refine zR (ts := [Pk.row [], .lit (.int .i64 3)]) ?_ | refine zQ (ts := [Pk.row [], .lit (.int .i64 3)]) ?_
    rfl
  cases d2 : decide (tt = bs s0)
  · rw [Bool.and_false, cond_false]
    repeat (first | refine gG ?_ | refine zN1 (fun hlen => ?_) | refine zN2 (fun hlen => ?_) | refine zAp (fun _ => ?_))
    refine zCall (htx) ?_
    rintro _ rfl
    repeat (first | refine gG ?_ | refine zN1 (fun hlen => ?_) | refine zN2 (fun hlen => ?_) | refine zAp (fun _ => ?_))
    first | refine zR (ts := [Pk.row [], .lit (.int .i64 3)]) ?_ | refine zQ (ts := [Pk.row [], .lit (.int .i64 3)]) ?_
    rfl
  · rw [Bool.and_self, cond_true]
    repeat (first | refine gG ?_ | refine zN1 (fun hlen => ?_) | refine zN2 (fun hlen => ?_) | refine zAp (fun _ => ?_))
    refine zCall (htx) ?_
    rintro _ rfl
    repeat (first | refine gG ?_ | refine zN1 (fun hlen => ?_) | refine zN2 (fun hlen => ?_) | refine zAp (fun _ => ?_))
    first | refine zR ?_ | refine zQ ?_
    rfl
end Go.Proofs.YtadlmkgeplnemaaDoor
namespace Go.Proofs.YtadlmkgeplnemaaDoor
open Go.RowKit
theorem readR_cons (line : List UInt8) (ls : List (List UInt8)) (acc : List Ln) : readR (line :: ls) acc = match lineR line with | none => none | some p => if acc.length = 30 then none else readR ls (acc ++ [p]) := by rw [readR]; cases lineR line <;> rfl
theorem linesOf_hit {s : List UInt8} (h : s ≠ []) (h0 : 0 ≤ Lib.indexByte s 10) : linesOf s = s.take ((Lib.indexByte s 10).toNat + 1) :: linesOf (s.drop ((Lib.indexByte s 10).toNat + 1)) := by
  rw [linesOf, dif_neg h, if_pos h0]
theorem linesOf_miss {s : List UInt8} (h : s ≠ []) (h0 : ¬ 0 ≤ Lib.indexByte s 10) : linesOf s = s :: linesOf [] := by
  rw [linesOf, dif_neg h, if_neg h0, linesOf_nil]
theorem bs_dec (r : List UInt8) : decide ((0 : Int) < (((bs r).size : Nat) : Int)) = decide (r ≠ []) := by
  rw [bs_size']
  cases r <;> simp
set_option maxRecDepth 100000 in
set_option maxHeartbeats 8000000 in
theorem lRead_af (s : ByteArray) (hs : s.size < 1048576) : AF Tryd.prog 8 [.lit (.string s)] (· = resK (rdK s (prR s))) := by
  unfold prR
  obtain ⟨s0, rfl⟩ : ∃ s0, s = bs s0 := ⟨_, (bs_self s).symm⟩
  rw [bs_data']
  rw [bs_size'] at hs
  generalize hR : readR (linesOf s0) [] = R0
  refine af_enterP tok Tryd.func8 Tryd.ntmps8 Tryd.results8 rfl (by kernel_rfl) rfl rfl fun F hX => ?_
  refine ap_seq (ap_ac ?_)
  repeat (first | refine gG ?_ | refine zN1 (fun hlen => ?_) | refine zN2 (fun hlen => ?_) | refine zSub ?_ | refine zAl (fun _ => ?_) | refine zBx (fun _ => ?_) | refine zAp (fun _ => ?_))
  refine ap_seq (ap_ac ?_)
  repeat (first | refine gG ?_ | refine zN1 (fun hlen => ?_) | refine zN2 (fun hlen => ?_) | refine zSub ?_ | refine zAl (fun _ => ?_) | refine zBx (fun _ => ?_) | refine zAp (fun _ => ?_))
  refine ap_seq (ap_seq (ap_ac ?_))
  repeat (first | refine gG ?_ | refine zN1 (fun hlen => ?_) | refine zN2 (fun hlen => ?_) | refine zSub ?_ | refine zAl (fun _ => ?_) | refine zBx (fun _ => ?_) | refine zAp (fun _ => ?_))
  refine v_inl Tryd.func25 Tryd.ntmps25 Tryd.results25 rfl (by kernel_rfl) tok rfl rfl rfl (fun M9 => ?_)
  repeat (first | refine gG ?_ | refine zN1 (fun hlen => ?_) | refine zN2 (fun hlen => ?_) | refine zSub ?_ | refine zAl (fun _ => ?_) | refine zBx (fun _ => ?_) | refine zAp (fun _ => ?_))
  rename_i b0 b1 b2 b3
  refine zFinA (vs := [.fn (.func 39) [.ptr 3 b3 0]]) (he := .inr rfl) (ho := ⟨_, _, rfl, rfl, rfl⟩) ?_
  repeat (first | refine gG ?_ | refine zN1 (fun hlen => ?_) | refine zN2 (fun hlen => ?_) | refine zSub ?_ | refine zAl (fun _ => ?_) | refine zBx (fun _ => ?_) | refine zAp (fun _ => ?_))
  refine ap_block ?_
  refine ap_wk (wk_own_cell (σ := ⟨_, _, _⟩) 2 0 27 2 (by decide) rfl rfl rfl rfl) ?_
  refine ap_range Tryd.func39 Tryd.ntmps39 Tryd.results39 rfl (by kernel_rfl) rfl (by simp) (fun M0 fnm tm D l hT hN => ?_)
  refine ap_block ?_
  refine x_loopP [3, 4, 5, 6, 7, 8, 9, 10, 11, 12, 13, 14, 15, 16, 17, 18, 19, 20, 21, 22, 23, 24] (fun _ : List UInt8 × Value × List Pk => []) (fun y => [.box b0 22 [.c (.lit (.slice none 0 0))], .box b1 23 [.c (.lit (.int .i64 0))], .box b2 22 [.own 4 y.2.1], .box b3 9 [.c (.lit (.string (bs y.1)))], .row y.2.1 27 2 y.2.2.length (y.2.2.flatMap Pk.ts), .obj D (.deferred (some [])), .obj l (recL .ready none fnm tm #[15] _ _ D)])
    (fun y => y.1.length + y.2.2.length ≤ s0.length ∧ (∀ p ∈ y.2.2, p.name.size ≤ 1048576) ∧ readR (linesOf y.1) (y.2.2.map lnOf) = R0) (fun y => y.1.length) (s0, .slice none 0 0, []) ⟨by simp, fun p hp => (by cases hp), hR⟩ trivial rfl ?_
  rintro ⟨r, v, acc⟩ ⟨hlen, hnm, hO⟩
  dsimp only at hlen hnm hO ⊢
  clear hR
  have hz := bs_dec r
  by_cases hr : r = []
  · rw [hr] at hO
    have dz : decide ((0 : Int) < (((bs r).size : Nat) : Int)) = false := by rw [hz, hr]; rfl
    clear hz
    rw [linesOf_nil, readR] at hO
    have htx := lText_af acc hnm
    rw [← hO]
    clear hO hlen hnm
    unfold rdK
    simp only [Option.map_some, pks_lns]
    generalize lkT acc = tv at *
    obtain ⟨tt, te⟩ := tv
    dsimp only at htx ⊢
    repeat (first | refine gG ?_ | refine ap_seq ?_ | refine ap_block ?_ | refine ap_region ?_ | refine ap_skip ?_ | refine ap_exit ?_ | refine ap_ret ?_ | refine apT ?_ | refine apF ?_ | refine zN1 (fun hlen => ?_) | refine zN2 (fun hlen => ?_) | refine zAl (fun _ => ?_) | refine zBx (fun _ => ?_) | refine zAp (fun _ => ?_))
    -- BEGIN tail
    refine ⟨.inl rfl, rfl, [_, _, _, _, _], .ready, none, rfl, (fun h => by cases h), ?_⟩
    show AP none _ _ _ _ _ ⟨_, [_, _, _, _, _, _, _], _⟩
    refine ap_wk (wk_fzc 2 0 rfl rfl rfl rfl rfl rfl) ?_
    cases d1 : decide (te = 0)
    · rw [Bool.false_and, cond_false]
      repeat (first | refine gG ?_ | refine ap_seq ?_ | refine ap_block ?_ | refine ap_region ?_ | refine ap_skip ?_ | refine ap_exit ?_ | refine ap_ret ?_ | refine apT ?_ | refine apF ?_ | refine zN1 (fun hlen => ?_) | refine zN2 (fun hlen => ?_) | refine zAl (fun _ => ?_) | refine zBx (fun _ => ?_) | refine zAp (fun _ => ?_))
      refine zCall (htx) ?_
      rintro _ rfl
      repeat (first | refine gG ?_ | refine ap_seq ?_ | refine ap_block ?_ | refine ap_region ?_ | refine ap_skip ?_ | refine ap_exit ?_ | refine ap_ret ?_ | refine apT ?_ | refine apF ?_ | refine zN1 (fun hlen => ?_) | refine zN2 (fun hlen => ?_) | refine zAl (fun _ => ?_) | refine zBx (fun _ => ?_) | refine zAp (fun _ => ?_))
      refine finP 5 D ?_
      first | refine zR (ts := [Pk.row [], .lit (.int .i64 3)]) ?_ | refine zQ (ts := [Pk.row [], .lit (.int .i64 3)]) ?_
      rfl
    cases d2 : decide (tt = bs s0)
    · rw [Bool.and_false, cond_false]
      repeat (first | refine gG ?_ | refine ap_seq ?_ | refine ap_block ?_ | refine ap_region ?_ | refine ap_skip ?_ | refine ap_exit ?_ | refine ap_ret ?_ | refine apT ?_ | refine apF ?_ | refine zN1 (fun hlen => ?_) | refine zN2 (fun hlen => ?_) | refine zAl (fun _ => ?_) | refine zBx (fun _ => ?_) | refine zAp (fun _ => ?_))
      refine zCall (htx) ?_
      rintro _ rfl
      repeat (first | refine gG ?_ | refine ap_seq ?_ | refine ap_block ?_ | refine ap_region ?_ | refine ap_skip ?_ | refine ap_exit ?_ | refine ap_ret ?_ | refine apT ?_ | refine apF ?_ | refine zN1 (fun hlen => ?_) | refine zN2 (fun hlen => ?_) | refine zAl (fun _ => ?_) | refine zBx (fun _ => ?_) | refine zAp (fun _ => ?_))
      refine finP 5 D ?_
      first | refine zR (ts := [Pk.row [], .lit (.int .i64 3)]) ?_ | refine zQ (ts := [Pk.row [], .lit (.int .i64 3)]) ?_
      rfl
    · rw [Bool.and_self, cond_true]
      repeat (first | refine gG ?_ | refine ap_seq ?_ | refine ap_block ?_ | refine ap_region ?_ | refine ap_skip ?_ | refine ap_exit ?_ | refine ap_ret ?_ | refine apT ?_ | refine apF ?_ | refine zN1 (fun hlen => ?_) | refine zN2 (fun hlen => ?_) | refine zAl (fun _ => ?_) | refine zBx (fun _ => ?_) | refine zAp (fun _ => ?_))
      refine zCall (htx) ?_
      rintro _ rfl
      repeat (first | refine gG ?_ | refine ap_seq ?_ | refine ap_block ?_ | refine ap_region ?_ | refine ap_skip ?_ | refine ap_exit ?_ | refine ap_ret ?_ | refine apT ?_ | refine apF ?_ | refine zN1 (fun hlen => ?_) | refine zN2 (fun hlen => ?_) | refine zAl (fun _ => ?_) | refine zBx (fun _ => ?_) | refine zAp (fun _ => ?_))
      refine finP 5 D ?_
      first | refine zR ?_ | refine zQ ?_
      rfl
    -- END tail
  have dz : decide ((0 : Int) < (((bs r).size : Nat) : Int)) = true := by rw [hz]; exact decide_eq_true hr
  clear hz
  have hix : AF Tryd.prog 37 [.lit (.string (bs r)), .lit (.int .u8 10)] (· = .lit (.int .i64 (Lib.indexByte r 10))) := by
    have h := ixb_af (bs r) 10
    rw [bs_data'] at h
    exact h
  have hlt := @ixb_lt 10 r
  by_cases h0 : 0 ≤ Lib.indexByte r 10
  · -- BEGIN hit
    rw [linesOf_hit hr h0, readR_cons] at hO
    have hkk := hlt h0
    clear hlt
    generalize Lib.indexByte r 10 = ix at *
    obtain ⟨kk, rfl⟩ := Int.eq_ofNat_of_zero_le h0
    rw [Int.toNat_natCast] at hkk hO
    have d0 : decide ((0 : Int) ≤ (kk : Int)) = true := decide_eq_true h0
    have hl1 : (r.take (kk + 1)).length ≤ 1048576 := by rw [List.length_take]; omega
    have hl2 : (r.drop (kk + 1)).length + 1 ≤ r.length := by rw [List.length_drop]; omega
    clear h0
    rw [lineR_eq] at hO
    have ht : AF Tryd.prog 27 [.lit (.string (bs (r.take (kk + 1)))), .lit (.string (bs [10]))] (· = .lit (.string (bs (Lib.trimSuffix (r.take (kk + 1)) [10])))) := by
      have h := trim_af (bs (r.take (kk + 1))) (bs [10]) (by rw [bs_size']; exact hl1)
      rw [bs_data', bs_data'] at h
      exact h
    have htl := trim_len (r.take (kk + 1)) [10]
    generalize Lib.trimSuffix (r.take (kk + 1)) [10] = tl at *
    have hcut := cut_af (bs tl) ⟨#[32]⟩ (by rw [bs_size']; omega)
    have hcs := cutB_size (bs tl) ⟨#[32]⟩
    rw [bs_size'] at hcs
    generalize cutB (bs tl) ⟨#[32]⟩ = cu at *
    obtain ⟨c1, c2, two⟩ := cu
    dsimp only at hcut hcs hO
    have s1 : c1.size ≤ 1048576 := by omega
    have s2 : c2.size ≤ 1048576 := by omega
    clear hcs htl hl1
    cases ha : atoiO c2 with
    | none =>
      have q := atoi_bad ha s2
      rw [ha] at hO
      dsimp only at hO
      clear hl2 s1
      repeat (first | refine gG ?_ | refine ap_seq ?_ | refine ap_block ?_ | refine ap_region ?_ | refine ap_skip ?_ | refine ap_exit ?_ | refine ap_ret ?_ | refine apT ?_ | refine apF ?_ | refine zN1 (fun hlen => ?_) | refine zN2 (fun hlen => ?_) | refine zAl (fun _ => ?_) | refine zBx (fun _ => ?_) | refine zAp (fun _ => ?_))
      refine zCall (hix) ?_
      rintro _ rfl
      repeat (first | refine gG ?_ | refine zN1 (fun hlen => ?_) | refine zN2 (fun hlen => ?_) | refine zSub ?_ | refine zAl (fun _ => ?_) | refine zBx (fun _ => ?_) | refine zAp (fun _ => ?_))
      refine ap_seq (ap_region ?_)
      repeat (first | refine gG ?_ | refine zN1 (fun hlen => ?_) | refine zN2 (fun hlen => ?_) | refine zSub ?_ | refine zAl (fun _ => ?_) | refine zBx (fun _ => ?_) | refine zAp (fun _ => ?_))
      refine apT ?_
      refine ap_ac ?_
      refine ac_draw [1, 1, 1, 1, 1, 1, 1, 1, 1, 2] [0, 1, 2, 3, 4, 5, 6, 7, 8, 9] (by kernel_rfl) (by kernel_rfl) ?_
      refine gW ?_
      apply w_q; (focus exact rfl); (focus exact rfl); focus (intro _; (refine zSpt (l := r) (kk + 1) (by omega) ?_); exact det_refl)
      refine gW ?_
      apply w_q; (focus exact rfl); (focus exact rfl); focus (intro _; (refine zSpl (l := r) (kk + 1) (by omega) ?_); exact det_refl)
      refine gW ?_
      apply w_l; (focus exact rfl); (focus exact rfl); (refine zS ?_)
      refine w_nil ?_
      refine ap_seq (ap_regionY ?_)
      refine alpOp ?_
      refine zM ?_
      refine alpOp ?_
      refine zM ?_
      refine alpYield 6 hT hN (fun M1 => ?_)
      repeat (first | refine gG ?_ | refine ap_seq ?_ | refine ap_block ?_ | refine ap_region ?_ | refine ap_skip ?_ | refine ap_exit ?_ | refine ap_ret ?_ | refine apT ?_ | refine apF ?_ | refine zN1 (fun hlen => ?_) | refine zN2 (fun hlen => ?_) | refine zAl (fun _ => ?_) | refine zBx (fun _ => ?_) | refine zAp (fun _ => ?_))
      refine ⟨rfl, rfl, rfl, ?_⟩
      show AP (some l) _ _ _ _ _ ⟨_, [_, _, _, _, _, _, _], _⟩
      repeat (first | refine gG ?_ | refine ap_seq ?_ | refine ap_block ?_ | refine ap_region ?_ | refine ap_skip ?_ | refine ap_exit ?_ | refine ap_ret ?_ | refine apT ?_ | refine apF ?_ | refine zN1 (fun hlen => ?_) | refine zN2 (fun hlen => ?_) | refine zAl (fun _ => ?_) | refine zBx (fun _ => ?_) | refine zAp (fun _ => ?_))
      refine zCall (ht) ?_
      rintro _ rfl
      repeat (first | refine gG ?_ | refine ap_seq ?_ | refine ap_block ?_ | refine ap_region ?_ | refine ap_skip ?_ | refine ap_exit ?_ | refine ap_ret ?_ | refine apT ?_ | refine apF ?_ | refine zN1 (fun hlen => ?_) | refine zN2 (fun hlen => ?_) | refine zAl (fun _ => ?_) | refine zBx (fun _ => ?_) | refine zAp (fun _ => ?_))
      refine zCall (hcut) ?_
      rintro _ rfl
      repeat (first | refine gG ?_ | refine ap_seq ?_ | refine ap_block ?_ | refine ap_region ?_ | refine ap_skip ?_ | refine ap_exit ?_ | refine ap_ret ?_ | refine apT ?_ | refine apF ?_ | refine zN1 (fun hlen => ?_) | refine zN2 (fun hlen => ?_) | refine zAl (fun _ => ?_) | refine zBx (fun _ => ?_) | refine zAp (fun _ => ?_))
      refine zCall (q) ?_
      rintro _ ⟨x1, t1, p1, rfl⟩
      repeat (first | refine gG ?_ | refine ap_seq ?_ | refine ap_block ?_ | refine ap_region ?_ | refine ap_skip ?_ | refine ap_exit ?_ | refine ap_ret ?_ | refine apT ?_ | refine apF ?_ | refine zN1 (fun hlen => ?_) | refine zN2 (fun hlen => ?_) | refine zAl (fun _ => ?_) | refine zBx (fun _ => ?_) | refine zAp (fun _ => ?_))
      refine zEr1 ?_
      repeat (first | refine gG ?_ | refine ap_seq ?_ | refine ap_block ?_ | refine ap_region ?_ | refine ap_skip ?_ | refine ap_exit ?_ | refine ap_ret ?_ | refine apT ?_ | refine apF ?_ | refine zN1 (fun hlen => ?_) | refine zN2 (fun hlen => ?_) | refine zAl (fun _ => ?_) | refine zBx (fun _ => ?_) | refine zAp (fun _ => ?_))
      refine ⟨rfl, rfl, ?_⟩
      refine alpOp ?_
      refine zNot ?_
      refine alp_nil ?_
      show AP none _ _ _ _ _ ⟨_, [_, _, _, _, _, _, _], _⟩
      repeat (first | refine gG ?_ | refine ap_seq ?_ | refine ap_block ?_ | refine ap_region ?_ | refine ap_skip ?_ | refine ap_exit ?_ | refine ap_ret ?_ | refine apT ?_ | refine apF ?_ | refine zN1 (fun hlen => ?_) | refine zN2 (fun hlen => ?_) | refine zAl (fun _ => ?_) | refine zBx (fun _ => ?_) | refine zAp (fun _ => ?_))
      refine ⟨.inr rfl, rfl, [_, _, _, _, _], .done, some .ret, rfl, (fun h => by cases h), ?_⟩
      refine finP (hp := [_, _, _, _, _, _, _]) 5 D ?_
      first | refine zR (ts := [Pk.row [], .lit (.int .i64 3)]) ?_ | refine zQ (ts := [Pk.row [], .lit (.int .i64 3)]) ?_
      rw [← hO]
      rfl
    | some n =>
      have q := atoi_af ha s2
      rw [ha] at hO
      dsimp only at hO
      rw [List.length_map] at hO
      by_cases h30 : acc.length = 30
      · rw [if_pos h30] at hO
        have d30 : decide (((acc.length : Nat) : Int) = 30) = true := decide_eq_true (by omega)
        clear hl2 s1
        repeat (first | refine gG ?_ | refine ap_seq ?_ | refine ap_block ?_ | refine ap_region ?_ | refine ap_skip ?_ | refine ap_exit ?_ | refine ap_ret ?_ | refine apT ?_ | refine apF ?_ | refine zN1 (fun hlen => ?_) | refine zN2 (fun hlen => ?_) | refine zAl (fun _ => ?_) | refine zBx (fun _ => ?_) | refine zAp (fun _ => ?_))
        refine zCall (hix) ?_
        rintro _ rfl
        repeat (first | refine gG ?_ | refine zN1 (fun hlen => ?_) | refine zN2 (fun hlen => ?_) | refine zSub ?_ | refine zAl (fun _ => ?_) | refine zBx (fun _ => ?_) | refine zAp (fun _ => ?_))
        refine ap_seq (ap_region ?_)
        repeat (first | refine gG ?_ | refine zN1 (fun hlen => ?_) | refine zN2 (fun hlen => ?_) | refine zSub ?_ | refine zAl (fun _ => ?_) | refine zBx (fun _ => ?_) | refine zAp (fun _ => ?_))
        refine apT ?_
        refine ap_ac ?_
        refine ac_draw [1, 1, 1, 1, 1, 1, 1, 1, 1, 2] [0, 1, 2, 3, 4, 5, 6, 7, 8, 9] (by kernel_rfl) (by kernel_rfl) ?_
        refine gW ?_
        apply w_q; (focus exact rfl); (focus exact rfl); focus (intro _; (refine zSpt (l := r) (kk + 1) (by omega) ?_); exact det_refl)
        refine gW ?_
        apply w_q; (focus exact rfl); (focus exact rfl); focus (intro _; (refine zSpl (l := r) (kk + 1) (by omega) ?_); exact det_refl)
        refine gW ?_
        apply w_l; (focus exact rfl); (focus exact rfl); (refine zS ?_)
        refine w_nil ?_
        refine ap_seq (ap_regionY ?_)
        refine alpOp ?_
        refine zM ?_
        refine alpOp ?_
        refine zM ?_
        refine alpYield 6 hT hN (fun M1 => ?_)
        repeat (first | refine gG ?_ | refine ap_seq ?_ | refine ap_block ?_ | refine ap_region ?_ | refine ap_skip ?_ | refine ap_exit ?_ | refine ap_ret ?_ | refine apT ?_ | refine apF ?_ | refine zN1 (fun hlen => ?_) | refine zN2 (fun hlen => ?_) | refine zAl (fun _ => ?_) | refine zBx (fun _ => ?_) | refine zAp (fun _ => ?_))
        refine ⟨rfl, rfl, rfl, ?_⟩
        show AP (some l) _ _ _ _ _ ⟨_, [_, _, _, _, _, _, _], _⟩
        repeat (first | refine gG ?_ | refine ap_seq ?_ | refine ap_block ?_ | refine ap_region ?_ | refine ap_skip ?_ | refine ap_exit ?_ | refine ap_ret ?_ | refine apT ?_ | refine apF ?_ | refine zN1 (fun hlen => ?_) | refine zN2 (fun hlen => ?_) | refine zAl (fun _ => ?_) | refine zBx (fun _ => ?_) | refine zAp (fun _ => ?_))
        refine zCall (ht) ?_
        rintro _ rfl
        repeat (first | refine gG ?_ | refine ap_seq ?_ | refine ap_block ?_ | refine ap_region ?_ | refine ap_skip ?_ | refine ap_exit ?_ | refine ap_ret ?_ | refine apT ?_ | refine apF ?_ | refine zN1 (fun hlen => ?_) | refine zN2 (fun hlen => ?_) | refine zAl (fun _ => ?_) | refine zBx (fun _ => ?_) | refine zAp (fun _ => ?_))
        refine zCall (hcut) ?_
        rintro _ rfl
        repeat (first | refine gG ?_ | refine ap_seq ?_ | refine ap_block ?_ | refine ap_region ?_ | refine ap_skip ?_ | refine ap_exit ?_ | refine ap_ret ?_ | refine apT ?_ | refine apF ?_ | refine zN1 (fun hlen => ?_) | refine zN2 (fun hlen => ?_) | refine zAl (fun _ => ?_) | refine zBx (fun _ => ?_) | refine zAp (fun _ => ?_))
        refine zCall (q) ?_
        rintro _ rfl
        repeat (first | refine gG ?_ | refine ap_seq ?_ | refine ap_block ?_ | refine ap_region ?_ | refine ap_skip ?_ | refine ap_exit ?_ | refine ap_ret ?_ | refine apT ?_ | refine apF ?_ | refine zN1 (fun hlen => ?_) | refine zN2 (fun hlen => ?_) | refine zAl (fun _ => ?_) | refine zBx (fun _ => ?_) | refine zAp (fun _ => ?_))
        refine zEr0 ?_
        repeat (first | refine gG ?_ | refine ap_seq ?_ | refine ap_block ?_ | refine ap_region ?_ | refine ap_skip ?_ | refine ap_exit ?_ | refine ap_ret ?_ | refine apT ?_ | refine apF ?_ | refine zN1 (fun hlen => ?_) | refine zN2 (fun hlen => ?_) | refine zAl (fun _ => ?_) | refine zBx (fun _ => ?_) | refine zAp (fun _ => ?_))
        refine ⟨rfl, rfl, ?_⟩
        refine alpOp ?_
        refine zNot ?_
        refine alp_nil ?_
        show AP none _ _ _ _ _ ⟨_, [_, _, _, _, _, _, _], _⟩
        repeat (first | refine gG ?_ | refine ap_seq ?_ | refine ap_block ?_ | refine ap_region ?_ | refine ap_skip ?_ | refine ap_exit ?_ | refine ap_ret ?_ | refine apT ?_ | refine apF ?_ | refine zN1 (fun hlen => ?_) | refine zN2 (fun hlen => ?_) | refine zAl (fun _ => ?_) | refine zBx (fun _ => ?_) | refine zAp (fun _ => ?_))
        refine ⟨.inr rfl, rfl, [_, _, _, _, _], .done, some .ret, rfl, (fun h => by cases h), ?_⟩
        refine finP (hp := [_, _, _, _, _, _, _]) 5 D ?_
        first | refine zR (ts := [Pk.row [], .lit (.int .i64 3)]) ?_ | refine zQ (ts := [Pk.row [], .lit (.int .i64 3)]) ?_
        rw [← hO]
        rfl
      · rw [if_neg h30] at hO
        have d30 : decide (((acc.length : Nat) : Int) = 30) = false := decide_eq_false (by omega)
        repeat (first | refine gG ?_ | refine ap_seq ?_ | refine ap_block ?_ | refine ap_region ?_ | refine ap_skip ?_ | refine ap_exit ?_ | refine ap_ret ?_ | refine apT ?_ | refine apF ?_ | refine zN1 (fun hlen => ?_) | refine zN2 (fun hlen => ?_) | refine zAl (fun _ => ?_) | refine zBx (fun _ => ?_) | refine zAp (fun _ => ?_))
        refine zCall (hix) ?_
        rintro _ rfl
        repeat (first | refine gG ?_ | refine zN1 (fun hlen => ?_) | refine zN2 (fun hlen => ?_) | refine zSub ?_ | refine zAl (fun _ => ?_) | refine zBx (fun _ => ?_) | refine zAp (fun _ => ?_))
        refine ap_seq (ap_region ?_)
        repeat (first | refine gG ?_ | refine zN1 (fun hlen => ?_) | refine zN2 (fun hlen => ?_) | refine zSub ?_ | refine zAl (fun _ => ?_) | refine zBx (fun _ => ?_) | refine zAp (fun _ => ?_))
        refine apT ?_
        refine ap_ac ?_
        refine ac_draw [1, 1, 1, 1, 1, 1, 1, 1, 1, 2] [0, 1, 2, 3, 4, 5, 6, 7, 8, 9] (by kernel_rfl) (by kernel_rfl) ?_
        refine gW ?_
        apply w_q; (focus exact rfl); (focus exact rfl); focus (intro _; (refine zSpt (l := r) (kk + 1) (by omega) ?_); exact det_refl)
        refine gW ?_
        apply w_q; (focus exact rfl); (focus exact rfl); focus (intro _; (refine zSpl (l := r) (kk + 1) (by omega) ?_); exact det_refl)
        refine gW ?_
        apply w_l; (focus exact rfl); (focus exact rfl); (refine zS ?_)
        refine w_nil ?_
        refine ap_seq (ap_regionY ?_)
        refine alpOp ?_
        refine zM ?_
        refine alpOp ?_
        refine zM ?_
        refine alpYield 6 hT hN (fun M1 => ?_)
        repeat (first | refine gG ?_ | refine ap_seq ?_ | refine ap_block ?_ | refine ap_region ?_ | refine ap_skip ?_ | refine ap_exit ?_ | refine ap_ret ?_ | refine apT ?_ | refine apF ?_ | refine zN1 (fun hlen => ?_) | refine zN2 (fun hlen => ?_) | refine zAl (fun _ => ?_) | refine zBx (fun _ => ?_) | refine zAp (fun _ => ?_))
        refine ⟨rfl, rfl, rfl, ?_⟩
        show AP (some l) _ _ _ _ _ ⟨_, [_, _, _, _, _, _, _], _⟩
        repeat (first | refine gG ?_ | refine ap_seq ?_ | refine ap_block ?_ | refine ap_region ?_ | refine ap_skip ?_ | refine ap_exit ?_ | refine ap_ret ?_ | refine apT ?_ | refine apF ?_ | refine zN1 (fun hlen => ?_) | refine zN2 (fun hlen => ?_) | refine zAl (fun _ => ?_) | refine zBx (fun _ => ?_) | refine zAp (fun _ => ?_))
        refine zCall (ht) ?_
        rintro _ rfl
        repeat (first | refine gG ?_ | refine ap_seq ?_ | refine ap_block ?_ | refine ap_region ?_ | refine ap_skip ?_ | refine ap_exit ?_ | refine ap_ret ?_ | refine apT ?_ | refine apF ?_ | refine zN1 (fun hlen => ?_) | refine zN2 (fun hlen => ?_) | refine zAl (fun _ => ?_) | refine zBx (fun _ => ?_) | refine zAp (fun _ => ?_))
        refine zCall (hcut) ?_
        rintro _ rfl
        repeat (first | refine gG ?_ | refine ap_seq ?_ | refine ap_block ?_ | refine ap_region ?_ | refine ap_skip ?_ | refine ap_exit ?_ | refine ap_ret ?_ | refine apT ?_ | refine apF ?_ | refine zN1 (fun hlen => ?_) | refine zN2 (fun hlen => ?_) | refine zAl (fun _ => ?_) | refine zBx (fun _ => ?_) | refine zAp (fun _ => ?_))
        refine zCall (q) ?_
        rintro _ rfl
        repeat (first | refine gG ?_ | refine ap_seq ?_ | refine ap_block ?_ | refine ap_region ?_ | refine ap_skip ?_ | refine ap_exit ?_ | refine ap_ret ?_ | refine apT ?_ | refine apF ?_ | refine zN1 (fun hlen => ?_) | refine zN2 (fun hlen => ?_) | refine zAl (fun _ => ?_) | refine zBx (fun _ => ?_) | refine zAp (fun _ => ?_))
        refine zEr0 ?_
        repeat (first | refine gG ?_ | refine ap_seq ?_ | refine ap_block ?_ | refine ap_region ?_ | refine ap_skip ?_ | refine ap_exit ?_ | refine ap_ret ?_ | refine apT ?_ | refine apF ?_ | refine zN1 (fun hlen => ?_) | refine zN2 (fun hlen => ?_) | refine zAl (fun _ => ?_) | refine zBx (fun _ => ?_) | refine zAp (fun _ => ?_))
        refine ⟨rfl, rfl, ?_⟩
        refine alpOp ?_
        refine zNot ?_
        refine alp_nil ?_
        show AP none _ _ _ _ _ ⟨_, [_, _, _, _, _, _, _], _⟩
        repeat (first | refine gG ?_ | refine ap_seq ?_ | refine ap_block ?_ | refine ap_region ?_ | refine ap_skip ?_ | refine ap_exit ?_ | refine ap_ret ?_ | refine apT ?_ | refine apF ?_ | refine zN1 (fun hlen => ?_) | refine zN2 (fun hlen => ?_) | refine zAl (fun _ => ?_) | refine zBx (fun _ => ?_) | refine zAp (fun _ => ?_))
        exact ⟨rfl, ((r.drop (kk + 1)), _, acc ++ [⟨c1, n⟩]), ⟨by simp only [List.length_append, List.length_singleton]; omega, fun p hp => by
          rcases List.mem_append.1 hp with hp | hp
          · exact hnm p hp
          · rw [List.mem_singleton] at hp; subst hp; exact s1, by rw [List.map_append]; exact hO⟩, by simp only; omega, x_wkd 7 trivial (by dsimp only; simp only [List.length_append, List.flatMap_append]; rfl) (by repeat (first | exact ag_refl | refine ag_upd rfl ?_ | refine ag_at rfl rfl ?_))⟩
    -- END hit
  · -- BEGIN miss
    rw [linesOf_miss hr h0, readR_cons] at hO
    clear hlt
    generalize Lib.indexByte r 10 = ix at *
    have d0 : decide ((0 : Int) ≤ ix) = false := decide_eq_false h0
    have hl1 : r.length ≤ 1048576 := by omega
    have hl2 : ([] : List UInt8).length + 1 ≤ r.length := by have := List.length_pos_iff.2 hr; simp; omega
    clear h0
    rw [lineR_eq] at hO
    have ht : AF Tryd.prog 27 [.lit (.string (bs r)), .lit (.string (bs [10]))] (· = .lit (.string (bs (Lib.trimSuffix r [10])))) := by
      have h := trim_af (bs r) (bs [10]) (by rw [bs_size']; exact hl1)
      rw [bs_data', bs_data'] at h
      exact h
    have htl := trim_len r [10]
    generalize Lib.trimSuffix r [10] = tl at *
    have hcut := cut_af (bs tl) ⟨#[32]⟩ (by rw [bs_size']; omega)
    have hcs := cutB_size (bs tl) ⟨#[32]⟩
    rw [bs_size'] at hcs
    generalize cutB (bs tl) ⟨#[32]⟩ = cu at *
    obtain ⟨c1, c2, two⟩ := cu
    dsimp only at hcut hcs hO
    have s1 : c1.size ≤ 1048576 := by omega
    have s2 : c2.size ≤ 1048576 := by omega
    clear hcs htl hl1
    cases ha : atoiO c2 with
    | none =>
      have q := atoi_bad ha s2
      rw [ha] at hO
      dsimp only at hO
      clear hl2 s1
      repeat (first | refine gG ?_ | refine ap_seq ?_ | refine ap_block ?_ | refine ap_region ?_ | refine ap_skip ?_ | refine ap_exit ?_ | refine ap_ret ?_ | refine apT ?_ | refine apF ?_ | refine zN1 (fun hlen => ?_) | refine zN2 (fun hlen => ?_) | refine zAl (fun _ => ?_) | refine zBx (fun _ => ?_) | refine zAp (fun _ => ?_))
      refine zCall (hix) ?_
      rintro _ rfl
      repeat (first | refine gG ?_ | refine zN1 (fun hlen => ?_) | refine zN2 (fun hlen => ?_) | refine zSub ?_ | refine zAl (fun _ => ?_) | refine zBx (fun _ => ?_) | refine zAp (fun _ => ?_))
      refine ap_seq (ap_region ?_)
      repeat (first | refine gG ?_ | refine zN1 (fun hlen => ?_) | refine zN2 (fun hlen => ?_) | refine zSub ?_ | refine zAl (fun _ => ?_) | refine zBx (fun _ => ?_) | refine zAp (fun _ => ?_))
      refine apF ?_
      refine ap_region ?_
      repeat (first | refine gG ?_ | refine zN1 (fun hlen => ?_) | refine zN2 (fun hlen => ?_) | refine zSub ?_ | refine zAl (fun _ => ?_) | refine zBx (fun _ => ?_) | refine zAp (fun _ => ?_))
      refine ap_seq (ap_regionY ?_)
      refine alpOp ?_
      refine zM ?_
      refine alpOp ?_
      refine zM ?_
      refine alpYield 6 hT hN (fun M1 => ?_)
      repeat (first | refine gG ?_ | refine ap_seq ?_ | refine ap_block ?_ | refine ap_region ?_ | refine ap_skip ?_ | refine ap_exit ?_ | refine ap_ret ?_ | refine apT ?_ | refine apF ?_ | refine zN1 (fun hlen => ?_) | refine zN2 (fun hlen => ?_) | refine zAl (fun _ => ?_) | refine zBx (fun _ => ?_) | refine zAp (fun _ => ?_))
      refine ⟨rfl, rfl, rfl, ?_⟩
      show AP (some l) _ _ _ _ _ ⟨_, [_, _, _, _, _, _, _], _⟩
      repeat (first | refine gG ?_ | refine ap_seq ?_ | refine ap_block ?_ | refine ap_region ?_ | refine ap_skip ?_ | refine ap_exit ?_ | refine ap_ret ?_ | refine apT ?_ | refine apF ?_ | refine zN1 (fun hlen => ?_) | refine zN2 (fun hlen => ?_) | refine zAl (fun _ => ?_) | refine zBx (fun _ => ?_) | refine zAp (fun _ => ?_))
      refine zCall (ht) ?_
      rintro _ rfl
      repeat (first | refine gG ?_ | refine ap_seq ?_ | refine ap_block ?_ | refine ap_region ?_ | refine ap_skip ?_ | refine ap_exit ?_ | refine ap_ret ?_ | refine apT ?_ | refine apF ?_ | refine zN1 (fun hlen => ?_) | refine zN2 (fun hlen => ?_) | refine zAl (fun _ => ?_) | refine zBx (fun _ => ?_) | refine zAp (fun _ => ?_))
      refine zCall (hcut) ?_
      rintro _ rfl
      repeat (first | refine gG ?_ | refine ap_seq ?_ | refine ap_block ?_ | refine ap_region ?_ | refine ap_skip ?_ | refine ap_exit ?_ | refine ap_ret ?_ | refine apT ?_ | refine apF ?_ | refine zN1 (fun hlen => ?_) | refine zN2 (fun hlen => ?_) | refine zAl (fun _ => ?_) | refine zBx (fun _ => ?_) | refine zAp (fun _ => ?_))
      refine zCall (q) ?_
      rintro _ ⟨x1, t1, p1, rfl⟩
      repeat (first | refine gG ?_ | refine ap_seq ?_ | refine ap_block ?_ | refine ap_region ?_ | refine ap_skip ?_ | refine ap_exit ?_ | refine ap_ret ?_ | refine apT ?_ | refine apF ?_ | refine zN1 (fun hlen => ?_) | refine zN2 (fun hlen => ?_) | refine zAl (fun _ => ?_) | refine zBx (fun _ => ?_) | refine zAp (fun _ => ?_))
      refine zEr1 ?_
      repeat (first | refine gG ?_ | refine ap_seq ?_ | refine ap_block ?_ | refine ap_region ?_ | refine ap_skip ?_ | refine ap_exit ?_ | refine ap_ret ?_ | refine apT ?_ | refine apF ?_ | refine zN1 (fun hlen => ?_) | refine zN2 (fun hlen => ?_) | refine zAl (fun _ => ?_) | refine zBx (fun _ => ?_) | refine zAp (fun _ => ?_))
      refine ⟨rfl, rfl, ?_⟩
      refine alpOp ?_
      refine zNot ?_
      refine alp_nil ?_
      show AP none _ _ _ _ _ ⟨_, [_, _, _, _, _, _, _], _⟩
      repeat (first | refine gG ?_ | refine ap_seq ?_ | refine ap_block ?_ | refine ap_region ?_ | refine ap_skip ?_ | refine ap_exit ?_ | refine ap_ret ?_ | refine apT ?_ | refine apF ?_ | refine zN1 (fun hlen => ?_) | refine zN2 (fun hlen => ?_) | refine zAl (fun _ => ?_) | refine zBx (fun _ => ?_) | refine zAp (fun _ => ?_))
      refine ⟨.inr rfl, rfl, [_, _, _, _, _], .done, some .ret, rfl, (fun h => by cases h), ?_⟩
      refine finP (hp := [_, _, _, _, _, _, _]) 5 D ?_
      first | refine zR (ts := [Pk.row [], .lit (.int .i64 3)]) ?_ | refine zQ (ts := [Pk.row [], .lit (.int .i64 3)]) ?_
      rw [← hO]
      rfl
    | some n =>
      have q := atoi_af ha s2
      rw [ha] at hO
      dsimp only at hO
      rw [List.length_map] at hO
      by_cases h30 : acc.length = 30
      · rw [if_pos h30] at hO
        have d30 : decide (((acc.length : Nat) : Int) = 30) = true := decide_eq_true (by omega)
        clear hl2 s1
        repeat (first | refine gG ?_ | refine ap_seq ?_ | refine ap_block ?_ | refine ap_region ?_ | refine ap_skip ?_ | refine ap_exit ?_ | refine ap_ret ?_ | refine apT ?_ | refine apF ?_ | refine zN1 (fun hlen => ?_) | refine zN2 (fun hlen => ?_) | refine zAl (fun _ => ?_) | refine zBx (fun _ => ?_) | refine zAp (fun _ => ?_))
        refine zCall (hix) ?_
        rintro _ rfl
        repeat (first | refine gG ?_ | refine zN1 (fun hlen => ?_) | refine zN2 (fun hlen => ?_) | refine zSub ?_ | refine zAl (fun _ => ?_) | refine zBx (fun _ => ?_) | refine zAp (fun _ => ?_))
        refine ap_seq (ap_region ?_)
        repeat (first | refine gG ?_ | refine zN1 (fun hlen => ?_) | refine zN2 (fun hlen => ?_) | refine zSub ?_ | refine zAl (fun _ => ?_) | refine zBx (fun _ => ?_) | refine zAp (fun _ => ?_))
        refine apF ?_
        refine ap_region ?_
        repeat (first | refine gG ?_ | refine zN1 (fun hlen => ?_) | refine zN2 (fun hlen => ?_) | refine zSub ?_ | refine zAl (fun _ => ?_) | refine zBx (fun _ => ?_) | refine zAp (fun _ => ?_))
        refine ap_seq (ap_regionY ?_)
        refine alpOp ?_
        refine zM ?_
        refine alpOp ?_
        refine zM ?_
        refine alpYield 6 hT hN (fun M1 => ?_)
        repeat (first | refine gG ?_ | refine ap_seq ?_ | refine ap_block ?_ | refine ap_region ?_ | refine ap_skip ?_ | refine ap_exit ?_ | refine ap_ret ?_ | refine apT ?_ | refine apF ?_ | refine zN1 (fun hlen => ?_) | refine zN2 (fun hlen => ?_) | refine zAl (fun _ => ?_) | refine zBx (fun _ => ?_) | refine zAp (fun _ => ?_))
        refine ⟨rfl, rfl, rfl, ?_⟩
        show AP (some l) _ _ _ _ _ ⟨_, [_, _, _, _, _, _, _], _⟩
        repeat (first | refine gG ?_ | refine ap_seq ?_ | refine ap_block ?_ | refine ap_region ?_ | refine ap_skip ?_ | refine ap_exit ?_ | refine ap_ret ?_ | refine apT ?_ | refine apF ?_ | refine zN1 (fun hlen => ?_) | refine zN2 (fun hlen => ?_) | refine zAl (fun _ => ?_) | refine zBx (fun _ => ?_) | refine zAp (fun _ => ?_))
        refine zCall (ht) ?_
        rintro _ rfl
        repeat (first | refine gG ?_ | refine ap_seq ?_ | refine ap_block ?_ | refine ap_region ?_ | refine ap_skip ?_ | refine ap_exit ?_ | refine ap_ret ?_ | refine apT ?_ | refine apF ?_ | refine zN1 (fun hlen => ?_) | refine zN2 (fun hlen => ?_) | refine zAl (fun _ => ?_) | refine zBx (fun _ => ?_) | refine zAp (fun _ => ?_))
        refine zCall (hcut) ?_
        rintro _ rfl
        repeat (first | refine gG ?_ | refine ap_seq ?_ | refine ap_block ?_ | refine ap_region ?_ | refine ap_skip ?_ | refine ap_exit ?_ | refine ap_ret ?_ | refine apT ?_ | refine apF ?_ | refine zN1 (fun hlen => ?_) | refine zN2 (fun hlen => ?_) | refine zAl (fun _ => ?_) | refine zBx (fun _ => ?_) | refine zAp (fun _ => ?_))
        refine zCall (q) ?_
        rintro _ rfl
        repeat (first | refine gG ?_ | refine ap_seq ?_ | refine ap_block ?_ | refine ap_region ?_ | refine ap_skip ?_ | refine ap_exit ?_ | refine ap_ret ?_ | refine apT ?_ | refine apF ?_ | refine zN1 (fun hlen => ?_) | refine zN2 (fun hlen => ?_) | refine zAl (fun _ => ?_) | refine zBx (fun _ => ?_) | refine zAp (fun _ => ?_))
        refine zEr0 ?_
        repeat (first | refine gG ?_ | refine ap_seq ?_ | refine ap_block ?_ | refine ap_region ?_ | refine ap_skip ?_ | refine ap_exit ?_ | refine ap_ret ?_ | refine apT ?_ | refine apF ?_ | refine zN1 (fun hlen => ?_) | refine zN2 (fun hlen => ?_) | refine zAl (fun _ => ?_) | refine zBx (fun _ => ?_) | refine zAp (fun _ => ?_))
        refine ⟨rfl, rfl, ?_⟩
        refine alpOp ?_
        refine zNot ?_
        refine alp_nil ?_
        show AP none _ _ _ _ _ ⟨_, [_, _, _, _, _, _, _], _⟩
        repeat (first | refine gG ?_ | refine ap_seq ?_ | refine ap_block ?_ | refine ap_region ?_ | refine ap_skip ?_ | refine ap_exit ?_ | refine ap_ret ?_ | refine apT ?_ | refine apF ?_ | refine zN1 (fun hlen => ?_) | refine zN2 (fun hlen => ?_) | refine zAl (fun _ => ?_) | refine zBx (fun _ => ?_) | refine zAp (fun _ => ?_))
        refine ⟨.inr rfl, rfl, [_, _, _, _, _], .done, some .ret, rfl, (fun h => by cases h), ?_⟩
        refine finP (hp := [_, _, _, _, _, _, _]) 5 D ?_
        first | refine zR (ts := [Pk.row [], .lit (.int .i64 3)]) ?_ | refine zQ (ts := [Pk.row [], .lit (.int .i64 3)]) ?_
        rw [← hO]
        rfl
      · rw [if_neg h30] at hO
        have d30 : decide (((acc.length : Nat) : Int) = 30) = false := decide_eq_false (by omega)
        repeat (first | refine gG ?_ | refine ap_seq ?_ | refine ap_block ?_ | refine ap_region ?_ | refine ap_skip ?_ | refine ap_exit ?_ | refine ap_ret ?_ | refine apT ?_ | refine apF ?_ | refine zN1 (fun hlen => ?_) | refine zN2 (fun hlen => ?_) | refine zAl (fun _ => ?_) | refine zBx (fun _ => ?_) | refine zAp (fun _ => ?_))
        refine zCall (hix) ?_
        rintro _ rfl
        repeat (first | refine gG ?_ | refine zN1 (fun hlen => ?_) | refine zN2 (fun hlen => ?_) | refine zSub ?_ | refine zAl (fun _ => ?_) | refine zBx (fun _ => ?_) | refine zAp (fun _ => ?_))
        refine ap_seq (ap_region ?_)
        repeat (first | refine gG ?_ | refine zN1 (fun hlen => ?_) | refine zN2 (fun hlen => ?_) | refine zSub ?_ | refine zAl (fun _ => ?_) | refine zBx (fun _ => ?_) | refine zAp (fun _ => ?_))
        refine apF ?_
        refine ap_region ?_
        repeat (first | refine gG ?_ | refine zN1 (fun hlen => ?_) | refine zN2 (fun hlen => ?_) | refine zSub ?_ | refine zAl (fun _ => ?_) | refine zBx (fun _ => ?_) | refine zAp (fun _ => ?_))
        refine ap_seq (ap_regionY ?_)
        refine alpOp ?_
        refine zM ?_
        refine alpOp ?_
        refine zM ?_
        refine alpYield 6 hT hN (fun M1 => ?_)
        repeat (first | refine gG ?_ | refine ap_seq ?_ | refine ap_block ?_ | refine ap_region ?_ | refine ap_skip ?_ | refine ap_exit ?_ | refine ap_ret ?_ | refine apT ?_ | refine apF ?_ | refine zN1 (fun hlen => ?_) | refine zN2 (fun hlen => ?_) | refine zAl (fun _ => ?_) | refine zBx (fun _ => ?_) | refine zAp (fun _ => ?_))
        refine ⟨rfl, rfl, rfl, ?_⟩
        show AP (some l) _ _ _ _ _ ⟨_, [_, _, _, _, _, _, _], _⟩
        repeat (first | refine gG ?_ | refine ap_seq ?_ | refine ap_block ?_ | refine ap_region ?_ | refine ap_skip ?_ | refine ap_exit ?_ | refine ap_ret ?_ | refine apT ?_ | refine apF ?_ | refine zN1 (fun hlen => ?_) | refine zN2 (fun hlen => ?_) | refine zAl (fun _ => ?_) | refine zBx (fun _ => ?_) | refine zAp (fun _ => ?_))
        refine zCall (ht) ?_
        rintro _ rfl
        repeat (first | refine gG ?_ | refine ap_seq ?_ | refine ap_block ?_ | refine ap_region ?_ | refine ap_skip ?_ | refine ap_exit ?_ | refine ap_ret ?_ | refine apT ?_ | refine apF ?_ | refine zN1 (fun hlen => ?_) | refine zN2 (fun hlen => ?_) | refine zAl (fun _ => ?_) | refine zBx (fun _ => ?_) | refine zAp (fun _ => ?_))
        refine zCall (hcut) ?_
        rintro _ rfl
        repeat (first | refine gG ?_ | refine ap_seq ?_ | refine ap_block ?_ | refine ap_region ?_ | refine ap_skip ?_ | refine ap_exit ?_ | refine ap_ret ?_ | refine apT ?_ | refine apF ?_ | refine zN1 (fun hlen => ?_) | refine zN2 (fun hlen => ?_) | refine zAl (fun _ => ?_) | refine zBx (fun _ => ?_) | refine zAp (fun _ => ?_))
        refine zCall (q) ?_
        rintro _ rfl
        repeat (first | refine gG ?_ | refine ap_seq ?_ | refine ap_block ?_ | refine ap_region ?_ | refine ap_skip ?_ | refine ap_exit ?_ | refine ap_ret ?_ | refine apT ?_ | refine apF ?_ | refine zN1 (fun hlen => ?_) | refine zN2 (fun hlen => ?_) | refine zAl (fun _ => ?_) | refine zBx (fun _ => ?_) | refine zAp (fun _ => ?_))
        refine zEr0 ?_
        repeat (first | refine gG ?_ | refine ap_seq ?_ | refine ap_block ?_ | refine ap_region ?_ | refine ap_skip ?_ | refine ap_exit ?_ | refine ap_ret ?_ | refine apT ?_ | refine apF ?_ | refine zN1 (fun hlen => ?_) | refine zN2 (fun hlen => ?_) | refine zAl (fun _ => ?_) | refine zBx (fun _ => ?_) | refine zAp (fun _ => ?_))
        refine ⟨rfl, rfl, ?_⟩
        refine alpOp ?_
        refine zNot ?_
        refine alp_nil ?_
        show AP none _ _ _ _ _ ⟨_, [_, _, _, _, _, _, _], _⟩
        repeat (first | refine gG ?_ | refine ap_seq ?_ | refine ap_block ?_ | refine ap_region ?_ | refine ap_skip ?_ | refine ap_exit ?_ | refine ap_ret ?_ | refine apT ?_ | refine apF ?_ | refine zN1 (fun hlen => ?_) | refine zN2 (fun hlen => ?_) | refine zAl (fun _ => ?_) | refine zBx (fun _ => ?_) | refine zAp (fun _ => ?_))
        exact ⟨rfl, ([], _, acc ++ [⟨c1, n⟩]), ⟨by simp only [List.length_append, List.length_singleton]; omega, fun p hp => by
          rcases List.mem_append.1 hp with hp | hp
          · exact hnm p hp
          · rw [List.mem_singleton] at hp; subst hp; exact s1, by rw [List.map_append]; exact hO⟩, by simp only; omega, x_wkd 7 trivial (by dsimp only; simp only [List.length_append, List.flatMap_append]; rfl) (by repeat (first | exact ag_refl | refine ag_upd rfl ?_ | refine ag_at rfl rfl ?_))⟩
    -- END miss
end Go.Proofs.YtadlmkgeplnemaaDoor
namespace Go.Proofs.YtadlmkgeplnemaaDoor
open Go.RowKit
def Pk.same (a b : Pk) : Bool := decide (a.name = b.name) && decide (a.version = b.version)
theorem Pk.same_self (a : Pk) : a.same a = true := by simp [Pk.same]
theorem pk_fields : Tryd.prog.underlying 27 = some (.struct (Tryd.prog.fieldsOf 27)) := by kernel_rfl
theorem pk_held : Tryd.prog.stoodInHeld 27 = false := by kernel_rfl
theorem pk_guard : Tryd.prog.eqGuardType Tryd.prog.depth 27 = false := by kernel_rfl
set_option maxRecDepth 100000 in
theorem eq_pk (d : Nat) (s s' : ByteArray) (a a' : Int) (w : World) :
    (Op.equalIn (d + 1 + 1) 27 (.agg [.string s, .int .i64 a].toArray) (.agg [.string s', .int .i64 a'].toArray)).run Tryd.prog w = .ok (Pk.same ⟨s, a⟩ ⟨s', a'⟩) w := by
  rw [run_equalIn_struct w (d + 1) 27 _ _ pk_fields pk_held]
  have h1 := pk_fields
  rw [Tryd.underlying27] at h1
  injection h1 with h1
  injection h1 with h1
  rw [← h1]
  have e1 : ∀ x y : ByteArray, (x.toList == y.toList) = decide (x = y) := fun x y => str_eq
  by_cases hs : s = s' <;> by_cases ha : a = a' <;>
    simp [Op.eqFields, part, Tryd.isAgg9, Tryd.isAgg3, run_equalIn_string w _ _ _ _ Tryd.underlying9, run_equalIn_int w _ _ _ _ _ _ Tryd.underlying3, e1, Pk.same, hs, ha]
theorem lo_neqPk {F : Frm} {d : Option Tmp} {ty : TypeId} {pos : String} {aft : Array Edge} {g : Option (Nat × Bool)} {ρ : Operand → AV} {hp : List Blk} {K : AV → List Blk → Prop} {t' : TypeId} {x y : Operand} (u v : Pk) {r : Bool} (hr : (!u.same v) = r) (h : K (.c (.lit (.bool r))) hp) (hx : ρ x = .c (.agg u.ts)) (hy : ρ y = .c (.agg v.ts)) : LO Tryd.prog F ⟨d, .binOp .neq 27 x y t', ty, pos, aft, g⟩ ρ hp K := by
  subst hr
  obtain ⟨s, a⟩ := u
  obtain ⟨s', a'⟩ := v
  refine LO.same (fun M e w he hh => ?_) h
  have h1 := he x (by simp [Op.operands])
  rw [hx] at h1
  have h2 := he y (by simp [Op.operands])
  rw [hy] at h2
  simp only [RA, RT, Pk.ts, RTs] at h1 h2
  obtain ⟨xs, h1, q0, r0, rfl, rfl, q1, r1, rfl, rfl, rfl⟩ := h1
  obtain ⟨ys, h2, q0, r0, rfl, rfl, q1, r1, rfl, rfl, rfl⟩ := h2
  refine ⟨.bool (!(Pk.same ⟨s, a⟩ ⟨s', a'⟩)), ?_, by simp only [RA, RT]⟩
  have hg := run_eqGuard_agg (P := Tryd.prog) w .neq 27 x y [.string s, .int .i64 a].toArray [.string s', .int .i64 a'].toArray pk_guard
  have hr := run_neq_struct (P := Tryd.prog) w 27 [.string s, .int .i64 a].toArray [.string s', .int .i64 a'].toArray
  have he2 := eq_pk 9998 s s' a a' w
  rw [show (9998 + 1 + 1) = 10000 from rfl] at he2
  rw [he2, Result.andThen_ok] at hr
  simp [execOp, h1, h2, hg, hr]
set_option maxRecDepth 100000 in
set_option maxHeartbeats 1000000 in
theorem eqPks_af (l : List Pk) : AF Tryd.prog 12 [Pk.row l, Pk.row l] (· = .lit (.bool true)) := by
  have q1 : decide (((l.length : Nat) : Int) = ((l.length : Nat) : Int)) = true := decide_eq_true rfl
  refine af_enter tok Tryd.func12 Tryd.ntmps12 Tryd.results12 rfl (by kernel_rfl) rfl rfl fun F hX => ?_
  repeat (first | refine gG ?_ | refine zN1 (fun hlen => ?_) | refine zN2 (fun hlen => ?_))
  refine x_loop [4, 5, 13, 14, 15, 16, 17, 18, 19, 20, 21, 22, 23, 24, 25] (fun k : Nat => [(13, .c (.lit (.int .i64 (k : Nat))))]) (fun _ => []) (fun k => k ≤ l.length) (fun k => l.length - k) 0 (Nat.zero_le _) ⟨rfl, trivial⟩ rfl ?_
  rintro k hk
  repeat (first | refine gG ?_ | refine zN1 (fun hlen => ?_) | refine zN2 (fun hlen => ?_))
  refine x_cond rfl (fun h => ?_) (fun h => ?_)
  · have hk' : k < l.length := by simpa using h
    obtain ⟨r, hr⟩ := nth hk'
    have hat := Pk.at hr
    have hself := r.same_self
    clear h hr
    repeat (first | refine gG ?_ | refine zN1 (fun hlen => ?_) | refine zN2 (fun hlen => ?_))
    refine ac_draw [1, 1, 1, 1, 1, 1, 1, 1, 1] [0, 1, 2, 3, 4, 5, 6, 7, 8] (by kernel_rfl) (by kernel_rfl) ?_
    refine gW ?_
    apply w_q; (focus exact rfl); (focus exact rfl); focus (intro _; (refine zIx k hk' ?_); exact det_refl)
    apply w_q; (focus exact rfl); (focus exact rfl); focus (intro _; (refine zEl hat (Pk.ts_len _) ?_); exact det_refl)
    refine gW ?_
    apply w_q; (focus exact rfl); (focus exact rfl); focus (intro _; (refine zIx k hk' ?_); exact det_refl)
    apply w_q; (focus exact rfl); (focus exact rfl); focus (intro _; (refine zEl hat (Pk.ts_len _) ?_); exact det_refl)
    apply w_q; (focus exact rfl); (focus exact rfl); focus (intro _; (refine lo_neqPk r r (r := false) (by rw [hself]; rfl) ?_ rfl rfl); exact det_refl)
    refine w_nil ?_
    repeat (first | refine gG ?_ | refine zN1 (fun hlen => ?_) | refine zN2 (fun hlen => ?_))
    exact ⟨k + 1, hk', by omega, x_wkd 0 ⟨rfl, trivial⟩ rfl (by repeat (first | exact ag_refl | refine ag_upd rfl ?_ | refine ag_at rfl rfl ?_))⟩
  · have hk' : k = l.length := by
      have : ¬ k < l.length := by simpa using h
      omega
    subst hk'
    clear h
    repeat (first | refine gG ?_ | refine zN1 (fun hlen => ?_) | refine zN2 (fun hlen => ?_))
    first | refine zR ?_ | refine zQ ?_
    rfl
theorem lk_a1 : lkT [⟨⟨#[97]⟩, 1⟩] = (⟨#[97, 32, 49, 10]⟩, 0) := by
  have h1 : Lib.itoa 1 = [49] := by rw [itoa_nat (by decide)]; exact Lib.decDigits_one (by decide)
  have hn : nameOk [97] = true := nameOk_yes (by simp) (by simp) (fun j hj _ => by
    have : j = 0 := by simp at hj; omega
    subst this
    rfl)
  have hf : lockF [⟨⟨#[97]⟩, 1⟩] = 0 := by
    unfold lockF
    rw [lockAt, show ((⟨#[97]⟩ : ByteArray).data.toList) = [97] from rfl, hn, lockAt]
    simp [ordK]
  unfold lkT
  rw [hf]
  unfold txL lnL lnOf
  simp only [List.map_cons, List.map_nil, List.flatMap_cons, List.flatMap_nil, h1]
  rfl
set_option maxRecDepth 100000 in
set_option maxHeartbeats 4000000 in
theorem lockTexts_law (l : List Pk) (s : ByteArray) (hl : ∀ p ∈ l, p.name.size ≤ 1048576) (hs : s.size < 1048576) : AF Tryd.prog 3 [Pk.row l, .lit (.string s)] (· = .lit (.bool true)) := by
  have h0 := lText_af [⟨⟨#[97]⟩, 1⟩] (by intro p hp; rw [List.mem_singleton] at hp; subst hp; decide)
  rw [lk_a1] at h0
  have h1 := lText_af l hl
  have h3 := refLText_af l hl
  have h4 := lRead_af s hs
  have h5 := lOf_af s hs
  have h7 := lockCheck_af l hl
  have h8 := lockFault_af l hl
  rw [← rdK_same s] at h5
  generalize rdK s (prR s) = R at *
  generalize lkT l = tv at *
  generalize lockF l = fe at *
  obtain ⟨tt, te⟩ := tv
  obtain ⟨x, e⟩ := R
  have h6 := eqPks_af x
  clear hs hl
  dsimp only [resK] at h0 h1 h3 h4 h5
  have d0 : decide ((⟨#[97, 32, 49, 10]⟩ : ByteArray) = ⟨#[97, 32, 49, 10]⟩) = true := decide_eq_true rfl
  have d1 : decide (tt = tt) = true := decide_eq_true rfl
  have d2 : decide (te = te) = true := decide_eq_true rfl
  have d3 : decide (e = e) = true := decide_eq_true rfl
  have d4 : decide (fe = fe) = true := decide_eq_true rfl
  refine af_enter tok Tryd.func3 Tryd.ntmps3 Tryd.results3 rfl (by kernel_rfl) rfl rfl fun F hX => ?_
  repeat (first | refine gG ?_)
  refine zCall (h0) ?_
  rintro _ rfl
  clear h0
  repeat (first | refine gG ?_)
  refine zCall (h1) ?_
  rintro _ rfl
  clear h1
  repeat (first | refine gG ?_)
  refine zCall (h3) ?_
  rintro _ rfl
  clear h3
  repeat (first | refine gG ?_)
  refine zCall (h4) ?_
  rintro _ rfl
  clear h4
  repeat (first | refine gG ?_)
  refine zCall (h5) ?_
  rintro _ rfl
  clear h5
  repeat (first | refine gG ?_)
  refine zCall (h7) ?_
  rintro _ rfl
  repeat (first | refine gG ?_)
  refine zCall (h8) ?_
  rintro _ rfl
  repeat (first | refine gG ?_)
  refine zCall (h6) ?_
  rintro _ rfl
  repeat (first | refine gG ?_)
  first | refine zR ?_ | refine zQ ?_
  rw [d3]
  rfl
end Go.Proofs.YtadlmkgeplnemaaDoor
namespace Go.Proofs.YtadlmkgeplnemaaDoor
open Go.ChangeShapes Go.WideShapes Go.ChangeAt Go.RowKit Go.Deep
section
variable {H : Type} {enc : TypeId × Value → H} {P : Program} {w : World} {base : Nat} {spare : Nat → Bool} {held : Bool}
theorem bulk_one (d : DataW H) : 1 ≤ Rows.uptoBulk d := by
  cases d with
  | lit l => cases l <;> simp [Rows.uptoBulk]
  | _ => simp [Rows.uptoBulk]
end
end Go.Proofs.YtadlmkgeplnemaaDoor
