/-
  Texts of this proof, part 7: Lkh Lki Open Law.
-/
import Derived.Test.YtadlmkgeplnemaaDoorQReplayTexts6
import Derived.ChangeKeysEq
import Derived.Deep.Slices
import Derived.JoinedCond
import Derived.Laws.IdiomRangeMap
import Derived.Lib.AppendStr
import Derived.Lib.AppendZerosOnto
import Derived.Lib.MinMax
import Derived.MapKept
import Derived.OpenShut
import Derived.ProofKit
import Derived.Test.YtadlmkgeplnemaaDoorRows
namespace Go.Proofs.YtadlmkgeplnemaaDoor
open Go.RowKit
theorem setC_B {f : List UInt8 → Option Cz} (s : ByteArray) : setC f s.data.toList = if s = ⟨#[]⟩ then some [] else optAll (fun x => f x.data.toList) (splS s ⟨#[32]⟩) := by
  unfold setC
  have h : s.data.toList = [] ↔ s = ⟨#[]⟩ := by
    constructor
    · intro h
      rw [← bs_self s, h]
      rfl
    · intro h; rw [h]
  by_cases e : s = ⟨#[]⟩
  · rw [if_pos e, if_pos (h.2 e)]
  · have h2 := splS_data s ⟨#[32]⟩
    change _ = Lib.split s.data.toList [32] at h2
    rw [if_neg e, if_neg fun h1 => e (h.1 h1), ← h2, optAll_map]
def czM (kd : Int) (o : Option (Int × Int)) : Option Cz := o.map fun p => ⟨kd, p.1, p.2⟩
theorem czM_none {kd : Int} {o : Option (Int × Int)} (h : o = none) : czM kd o = none := by rw [h]; rfl
theorem czM_some {kd : Int} {o : Option (Int × Int)} {p : Int × Int} (h : o = some p) : czM kd o = some ⟨kd, p.1, p.2⟩ := by rw [h]; rfl
theorem czP_eq (c : UInt8) (r : List UInt8) : czP (c :: r) = czM (Lib.indexByte [103, 99, 108] c + 1) (both2 (atoiO (cutB (bs r) ⟨#[45]⟩).1) (bif (cutB (bs r) ⟨#[45]⟩).2.2 then atoiO (cutB (bs r) ⟨#[45]⟩).2.1 else some 0)) := by
  unfold czP cutB czM
  rw [atoiO_eq, atoiO_eq]
  dsimp only
  rw [bs_data', bs_data', bs_data']
  change _ = Option.map _ (both2 (atoiL (Lib.cut r [45]).1) (bif (Lib.cut r [45]).2.2 then atoiL (Lib.cut r [45]).2.1 else some 0))
  generalize both2 (atoiL (Lib.cut r [45]).1) (bif (Lib.cut r [45]).2.2 then atoiL (Lib.cut r [45]).2.1 else some 0) = q
  cases q <;> rfl
theorem czQ_eq {c : UInt8} {r : List UInt8} {m1 : ByteArray} (h1 : (splS (bs r) ⟨#[45]⟩)[0]? = some m1) : czQ (c :: r) = czM (1 + Lib.index [103, 99, 108] [c]) (both2 (atoiO m1) (bif decide (1 + Lib.index [103, 99, 108] [c] = 2) && decide (((splS (bs r) ⟨#[45]⟩).length : Int) = 2) then atoiO ((splS (bs r) ⟨#[45]⟩).getD 1 ⟨#[]⟩) else some 0)) := by
  have hd := splS_data (bs r) ⟨#[45]⟩
  rw [bs_data', show ((⟨#[45]⟩ : ByteArray).data.toList) = [45] from rfl] at hd
  unfold czQ czM
  dsimp only
  rw [← hd, List.length_map, atoiO_eq, atoiO_eq]
  generalize splS (bs r) ⟨#[45]⟩ = M at *
  have e1 : (M.map (·.data.toList)).headD [] = m1.data.toList := by
    cases M with
    | nil => cases h1
    | cons y M => simp at h1; subst h1; rfl
  have e2 : (M.map (·.data.toList)).getD 1 [] = (M.getD 1 ⟨#[]⟩).data.toList := by
    simp only [List.getD_eq_getElem?_getD, List.getElem?_map]
    cases M[1]? <;> rfl
  rw [e1, e2]
  generalize both2 _ _ = q
  cases q <;> rfl
theorem ix3 (c : UInt8) : -1 ≤ Lib.indexByte [103, 99, 108] c ∧ Lib.indexByte [103, 99, 108] c ≤ 2 := by
  by_cases h1 : c = 103
  · subst h1; decide
  by_cases h2 : c = 99
  · subst h2; decide
  by_cases h3 : c = 108
  · subst h3; decide
  have : (103 : UInt8) ≠ c ∧ (99 : UInt8) ≠ c ∧ (108 : UInt8) ≠ c := ⟨Ne.symm h1, Ne.symm h2, Ne.symm h3⟩
  simp [Lib.indexByte, this]
theorem id3 (c : UInt8) : -1 ≤ Lib.index [103, 99, 108] [c] ∧ Lib.index [103, 99, 108] [c] ≤ 2 := by
  by_cases h1 : c = 103
  · subst h1; decide
  by_cases h2 : c = 99
  · subst h2; decide
  by_cases h3 : c = 108
  · subst h3; decide
  simp [Lib.index, h1, h2, h3]
theorem u8_back (c : UInt8) : ((c.toNat : Nat) : Int).toNat.toUInt8 = c := by simp
theorem ctV_nil : ctV [] = (⟨#[]⟩, 0) := rfl
def resC (r : List Cz × Int) : T := .tup [czRow r.1, .lit (.int .i64 r.2)]
theorem str_ne {s : ByteArray} (h : s ≠ ⟨#[]⟩) : ∃ c r, s = bs (c :: r) := by
  have h1 := bs_self s
  cases hd : s.data.toList with
  | nil => rw [hd] at h1; exact absurd h1.symm h
  | cons c r => rw [hd] at h1; exact ⟨c, r, h1.symm⟩
set_option maxRecDepth 100000 in
set_option maxHeartbeats 8000000 in
theorem cRead_af (s : ByteArray) (hs : s.size < 1048576) : AF Tryd.prog 21 [.lit (.string s)] (· = resC (rdC s (setC czP s.data.toList))) := by
  rw [setC_B]
  by_cases e0 : s = ⟨#[]⟩
  · subst e0
    rw [if_pos rfl]
    unfold rdC
    dsimp only
    rw [ctV_nil]
    dsimp only
    have dd : decide ((⟨#[]⟩ : ByteArray) = ⟨#[]⟩) = true := decide_eq_true rfl
    rw [dd]
    refine af_enter tok Tryd.func21 Tryd.ntmps21 Tryd.results21 rfl (by kernel_rfl) rfl rfl fun F hX => ?_
    repeat (first | refine gG ?_ | refine zN1 (fun hlen => ?_) | refine zN2 (fun hlen => ?_) | refine zAl (fun _ => ?_) | refine zAp (fun _ => ?_))
    first | refine zR (ts := [czRow [], .lit (.int .i64 0)]) ?_ | refine zQ (ts := [czRow [], .lit (.int .i64 0)]) ?_
    rfl
  rw [if_neg e0]
  have de : decide (s = ⟨#[]⟩) = false := decide_eq_false e0
  have hsp := split_af s ⟨#[32]⟩ (by omega) (by decide)
  have hsz : ∀ x ∈ splS s ⟨#[32]⟩, x.size ≤ 1048575 := fun x hx => by have := splS_size hx; omega
  have hln := splS_le s ⟨#[32]⟩ (by decide)
  generalize splS s ⟨#[32]⟩ = L at *
  clear e0
  refine af_enter tok Tryd.func21 Tryd.ntmps21 Tryd.results21 rfl (by kernel_rfl) rfl rfl fun F hX => ?_
  repeat (first | refine gG ?_ | refine zN1 (fun hlen => ?_) | refine zN2 (fun hlen => ?_) | refine zAl (fun _ => ?_) | refine zAp (fun _ => ?_))
  refine zCall (hsp) ?_
  rintro _ rfl
  clear hsp
  repeat (first | refine gG ?_ | refine zN1 (fun hlen => ?_) | refine zN2 (fun hlen => ?_) | refine zAl (fun _ => ?_) | refine zAp (fun _ => ?_))
  refine x_own 4 49 3 rfl rfl rfl rfl rfl ?_
  refine x_loop [2, 3, 4, 6, 7, 8, 9, 10, 11, 12, 20, 21, 22, 23, 24, 25, 26, 27, 28, 29, 30, 31, 32, 33, 34, 35, 36, 37, 38, 39, 40, 41, 42, 43, 44, 45, 46, 47, 48, 49, 50, 51, 52, 53, 54, 55, 56, 57, 58, 59, 60, 61] (fun y : Nat × Value × List Cz => [(20, .c (.lit (.int .i64 (y.1 : Nat)))), (4, .own 0 y.2.1)]) (fun y => [.row y.2.1 49 3 y.2.2.length (y.2.2.flatMap czTs)]) (fun y => y.1 ≤ L.length ∧ y.2.2.length ≤ y.1 ∧ OptTo (fun x => czP x.data.toList) L y.1 y.2.2) (fun y => L.length - y.1) (0, .slice none 0 0, []) ⟨Nat.zero_le _, Nat.le_refl _, optTo_zero _ _⟩ ⟨rfl, rfl, trivial⟩ rfl ?_
  rintro ⟨k, v, acc⟩ ⟨hk, hal, hO⟩
  dsimp only at hk hal hO ⊢
  repeat (first | refine gG ?_ | refine zN1 (fun hlen => ?_) | refine zN2 (fun hlen => ?_) | refine zAl (fun _ => ?_) | refine zAp (fun _ => ?_))
  refine x_cond rfl (fun h => ?_) (fun h => ?_)
  · have hk' : k < L.length := by simpa using h
    obtain ⟨x, hx⟩ := nth hk'
    have hxs := hsz x (List.mem_of_getElem? hx)
    have hat := str_at1 hx
    by_cases ex : x = ⟨#[]⟩
    · subst ex
      have hno := optTo_no hO hx rfl
      clear h hx hO hsz
      have dd : decide ((⟨#[]⟩ : ByteArray) = ⟨#[]⟩) = true := decide_eq_true rfl
      repeat (first | refine gG ?_ | refine zN1 (fun hlen => ?_) | refine zN2 (fun hlen => ?_) | refine zAl (fun _ => ?_) | refine zAp (fun _ => ?_))
      refine zIx k hk' ?_
      repeat (first | refine gG ?_ | refine zN1 (fun hlen => ?_) | refine zN2 (fun hlen => ?_) | refine zAl (fun _ => ?_) | refine zAp (fun _ => ?_))
      refine zEl1 hat ?_
      repeat (first | refine gG ?_ | refine zN1 (fun hlen => ?_) | refine zN2 (fun hlen => ?_) | refine zAl (fun _ => ?_) | refine zAp (fun _ => ?_))
      first | refine zR (ts := [czRow [], .lit (.int .i64 3)]) ?_ | refine zQ (ts := [czRow [], .lit (.int .i64 3)]) ?_
      rw [hno]
      rfl
    obtain ⟨c, r, rfl⟩ := str_ne ex
    have dx : decide (bs (c :: r) = ⟨#[]⟩) = false := decide_eq_false ex
    rw [bs_size', List.length_cons] at hxs
    have hrs : (bs r).size ≤ 1048575 := by rw [bs_size']; omega
    have hno2 := fun hb => optTo_no hO hx ((congrArg czP (bs_data' (c :: r))).trans hb)
    have hyes2 := fun (z : Cz) hb => optTo_yes (b := z) hO hx ((congrArg czP (bs_data' (c :: r))).trans hb)
    clear h hx hO hsz ex
    have hix := ixb_af (bs [103, 99, 108]) (c.toNat : Int)
    rw [bs_data', u8_back] at hix
    have hcut := cut_af (bs r) ⟨#[45]⟩ (by omega)
    have hcs := cutB_size (bs r) ⟨#[45]⟩
    have hpe := czP_eq c r
    have hi3 := ix3 c
    generalize cutB (bs r) ⟨#[45]⟩ = cu at *
    generalize hkd : Lib.indexByte [103, 99, 108] c = ix at *
    obtain ⟨c1, c2, two⟩ := cu
    dsimp only at hcut hcs hpe
    have s1 : c1.size ≤ 1048576 := by omega
    have s2 : c2.size ≤ 1048576 := by omega
    have hno1 := fun hb => hno2 (hpe.trans (czM_none hb))
    have hyes1 := fun (p : Int × Int) hb => hyes2 _ (hpe.trans (czM_some (p := p) hb))
    clear hno2 hyes2 hpe hcs hkd
    obtain ⟨hi1, hi2⟩ := hi3
    cases two
    · rw [cond_false] at hno1 hyes1
      clear s2
      cases ha : atoiO c1 with
      | none =>
        have q1 := atoi_bad ha s1
        have hno := hno1 (both2_none1 ha)
        repeat (first | refine gG ?_ | refine zN1 (fun hlen => ?_) | refine zN2 (fun hlen => ?_) | refine zAl (fun _ => ?_) | refine zAp (fun _ => ?_))
        refine zIx k hk' ?_
        repeat (first | refine gG ?_ | refine zN1 (fun hlen => ?_) | refine zN2 (fun hlen => ?_) | refine zAl (fun _ => ?_) | refine zAp (fun _ => ?_))
        refine zEl1 hat ?_
        repeat (first | refine gG ?_ | refine zN1 (fun hlen => ?_) | refine zN2 (fun hlen => ?_) | refine zAl (fun _ => ?_) | refine zAp (fun _ => ?_))
        refine zSix 0 rfl ?_
        repeat (first | refine gG ?_ | refine zN1 (fun hlen => ?_) | refine zN2 (fun hlen => ?_) | refine zAl (fun _ => ?_) | refine zAp (fun _ => ?_))
        refine zCall (hix) ?_
        rintro _ rfl
        repeat (first | refine gG ?_ | refine zN1 (fun hlen => ?_) | refine zN2 (fun hlen => ?_) | refine zAl (fun _ => ?_) | refine zAp (fun _ => ?_))
        refine lo_add rfl rfl (IntWalk.i64_in _ (by omega)) ?_
        repeat (first | refine gG ?_ | refine zN1 (fun hlen => ?_) | refine zN2 (fun hlen => ?_) | refine zAl (fun _ => ?_) | refine zAp (fun _ => ?_))
        refine zSpl (l := c :: r) 1 (by simp) ?_
        repeat (first | refine gG ?_ | refine zN1 (fun hlen => ?_) | refine zN2 (fun hlen => ?_) | refine zAl (fun _ => ?_) | refine zAp (fun _ => ?_))
        refine zCall (hcut) ?_
        rintro _ rfl
        repeat (first | refine gG ?_ | refine zN1 (fun hlen => ?_) | refine zN2 (fun hlen => ?_) | refine zAl (fun _ => ?_) | refine zAp (fun _ => ?_))
        refine zCall (q1) ?_
        rintro _ ⟨x1, t1, p1, rfl⟩
        repeat (first | refine gG ?_ | refine zN1 (fun hlen => ?_) | refine zN2 (fun hlen => ?_) | refine zAl (fun _ => ?_) | refine zAp (fun _ => ?_))
        refine zEr1 ?_
        repeat (first | refine gG ?_ | refine zN1 (fun hlen => ?_) | refine zN2 (fun hlen => ?_) | refine zAl (fun _ => ?_) | refine zAp (fun _ => ?_))
        first | refine zR (ts := [czRow [], .lit (.int .i64 3)]) ?_ | refine zQ (ts := [czRow [], .lit (.int .i64 3)]) ?_
        rw [hno]
        rfl
      | some a =>
        have q1 := atoi_af ha s1
        have hyes := hyes1 (a, 0) (by rw [ha]; rfl)
        repeat (first | refine gG ?_ | refine zN1 (fun hlen => ?_) | refine zN2 (fun hlen => ?_) | refine zAl (fun _ => ?_) | refine zAp (fun _ => ?_))
        refine zIx k hk' ?_
        repeat (first | refine gG ?_ | refine zN1 (fun hlen => ?_) | refine zN2 (fun hlen => ?_) | refine zAl (fun _ => ?_) | refine zAp (fun _ => ?_))
        refine zEl1 hat ?_
        repeat (first | refine gG ?_ | refine zN1 (fun hlen => ?_) | refine zN2 (fun hlen => ?_) | refine zAl (fun _ => ?_) | refine zAp (fun _ => ?_))
        refine zSix 0 rfl ?_
        repeat (first | refine gG ?_ | refine zN1 (fun hlen => ?_) | refine zN2 (fun hlen => ?_) | refine zAl (fun _ => ?_) | refine zAp (fun _ => ?_))
        refine zCall (hix) ?_
        rintro _ rfl
        repeat (first | refine gG ?_ | refine zN1 (fun hlen => ?_) | refine zN2 (fun hlen => ?_) | refine zAl (fun _ => ?_) | refine zAp (fun _ => ?_))
        refine lo_add rfl rfl (IntWalk.i64_in _ (by omega)) ?_
        repeat (first | refine gG ?_ | refine zN1 (fun hlen => ?_) | refine zN2 (fun hlen => ?_) | refine zAl (fun _ => ?_) | refine zAp (fun _ => ?_))
        refine zSpl (l := c :: r) 1 (by simp) ?_
        repeat (first | refine gG ?_ | refine zN1 (fun hlen => ?_) | refine zN2 (fun hlen => ?_) | refine zAl (fun _ => ?_) | refine zAp (fun _ => ?_))
        refine zCall (hcut) ?_
        rintro _ rfl
        repeat (first | refine gG ?_ | refine zN1 (fun hlen => ?_) | refine zN2 (fun hlen => ?_) | refine zAl (fun _ => ?_) | refine zAp (fun _ => ?_))
        refine zCall (q1) ?_
        rintro _ rfl
        repeat (first | refine gG ?_ | refine zN1 (fun hlen => ?_) | refine zN2 (fun hlen => ?_) | refine zAl (fun _ => ?_) | refine zAp (fun _ => ?_))
        refine zEr0 ?_
        repeat (first | refine gG ?_ | refine zN1 (fun hlen => ?_) | refine zN2 (fun hlen => ?_) | refine zAl (fun _ => ?_) | refine zAp (fun _ => ?_))
        refine zEr0 ?_
        repeat (first | refine gG ?_ | refine zN1 (fun hlen => ?_) | refine zN2 (fun hlen => ?_) | refine zAl (fun _ => ?_) | refine zAp (fun _ => ?_))
        exact ⟨(k + 1, _, acc ++ [⟨ix + 1, a, 0⟩]), ⟨hk', by simp only [List.length_append, List.length_singleton]; omega, hyes⟩, by simp only; omega, x_wkd 1 ⟨rfl, rfl, trivial⟩ (by dsimp only; simp only [List.length_append, List.flatMap_append]; rfl) (by repeat (first | exact ag_refl | refine ag_upd rfl ?_ | refine ag_at rfl rfl ?_))⟩
    · rw [cond_true] at hno1 hyes1
      cases ha : atoiO c1 with
      | none =>
        have q1 := atoi_bad ha s1
        have hno := hno1 (both2_none1 ha)
        cases hb : atoiO c2 with
        | none =>
          have q2 := atoi_bad hb s2
          repeat (first | refine gG ?_ | refine zN1 (fun hlen => ?_) | refine zN2 (fun hlen => ?_) | refine zAl (fun _ => ?_) | refine zAp (fun _ => ?_))
          refine zIx k hk' ?_
          repeat (first | refine gG ?_ | refine zN1 (fun hlen => ?_) | refine zN2 (fun hlen => ?_) | refine zAl (fun _ => ?_) | refine zAp (fun _ => ?_))
          refine zEl1 hat ?_
          repeat (first | refine gG ?_ | refine zN1 (fun hlen => ?_) | refine zN2 (fun hlen => ?_) | refine zAl (fun _ => ?_) | refine zAp (fun _ => ?_))
          refine zSix 0 rfl ?_
          repeat (first | refine gG ?_ | refine zN1 (fun hlen => ?_) | refine zN2 (fun hlen => ?_) | refine zAl (fun _ => ?_) | refine zAp (fun _ => ?_))
          refine zCall (hix) ?_
          rintro _ rfl
          repeat (first | refine gG ?_ | refine zN1 (fun hlen => ?_) | refine zN2 (fun hlen => ?_) | refine zAl (fun _ => ?_) | refine zAp (fun _ => ?_))
          refine lo_add rfl rfl (IntWalk.i64_in _ (by omega)) ?_
          repeat (first | refine gG ?_ | refine zN1 (fun hlen => ?_) | refine zN2 (fun hlen => ?_) | refine zAl (fun _ => ?_) | refine zAp (fun _ => ?_))
          refine zSpl (l := c :: r) 1 (by simp) ?_
          repeat (first | refine gG ?_ | refine zN1 (fun hlen => ?_) | refine zN2 (fun hlen => ?_) | refine zAl (fun _ => ?_) | refine zAp (fun _ => ?_))
          refine zCall (hcut) ?_
          rintro _ rfl
          repeat (first | refine gG ?_ | refine zN1 (fun hlen => ?_) | refine zN2 (fun hlen => ?_) | refine zAl (fun _ => ?_) | refine zAp (fun _ => ?_))
          refine zCall (q1) ?_
          rintro _ ⟨x1, t1, p1, rfl⟩
          repeat (first | refine gG ?_ | refine zN1 (fun hlen => ?_) | refine zN2 (fun hlen => ?_) | refine zAl (fun _ => ?_) | refine zAp (fun _ => ?_))
          refine zCall (q2) ?_
          rintro _ ⟨x2, t2, p2, rfl⟩
          repeat (first | refine gG ?_ | refine zN1 (fun hlen => ?_) | refine zN2 (fun hlen => ?_) | refine zAl (fun _ => ?_) | refine zAp (fun _ => ?_))
          refine zEr1 ?_
          repeat (first | refine gG ?_ | refine zN1 (fun hlen => ?_) | refine zN2 (fun hlen => ?_) | refine zAl (fun _ => ?_) | refine zAp (fun _ => ?_))
          first | refine zR (ts := [czRow [], .lit (.int .i64 3)]) ?_ | refine zQ (ts := [czRow [], .lit (.int .i64 3)]) ?_
          rw [hno]
          rfl
        | some b =>
          have q2 := atoi_af hb s2
          repeat (first | refine gG ?_ | refine zN1 (fun hlen => ?_) | refine zN2 (fun hlen => ?_) | refine zAl (fun _ => ?_) | refine zAp (fun _ => ?_))
          refine zIx k hk' ?_
          repeat (first | refine gG ?_ | refine zN1 (fun hlen => ?_) | refine zN2 (fun hlen => ?_) | refine zAl (fun _ => ?_) | refine zAp (fun _ => ?_))
          refine zEl1 hat ?_
          repeat (first | refine gG ?_ | refine zN1 (fun hlen => ?_) | refine zN2 (fun hlen => ?_) | refine zAl (fun _ => ?_) | refine zAp (fun _ => ?_))
          refine zSix 0 rfl ?_
          repeat (first | refine gG ?_ | refine zN1 (fun hlen => ?_) | refine zN2 (fun hlen => ?_) | refine zAl (fun _ => ?_) | refine zAp (fun _ => ?_))
          refine zCall (hix) ?_
          rintro _ rfl
          repeat (first | refine gG ?_ | refine zN1 (fun hlen => ?_) | refine zN2 (fun hlen => ?_) | refine zAl (fun _ => ?_) | refine zAp (fun _ => ?_))
          refine lo_add rfl rfl (IntWalk.i64_in _ (by omega)) ?_
          repeat (first | refine gG ?_ | refine zN1 (fun hlen => ?_) | refine zN2 (fun hlen => ?_) | refine zAl (fun _ => ?_) | refine zAp (fun _ => ?_))
          refine zSpl (l := c :: r) 1 (by simp) ?_
          repeat (first | refine gG ?_ | refine zN1 (fun hlen => ?_) | refine zN2 (fun hlen => ?_) | refine zAl (fun _ => ?_) | refine zAp (fun _ => ?_))
          refine zCall (hcut) ?_
          rintro _ rfl
          repeat (first | refine gG ?_ | refine zN1 (fun hlen => ?_) | refine zN2 (fun hlen => ?_) | refine zAl (fun _ => ?_) | refine zAp (fun _ => ?_))
          refine zCall (q1) ?_
          rintro _ ⟨x1, t1, p1, rfl⟩
          repeat (first | refine gG ?_ | refine zN1 (fun hlen => ?_) | refine zN2 (fun hlen => ?_) | refine zAl (fun _ => ?_) | refine zAp (fun _ => ?_))
          refine zCall (q2) ?_
          rintro _ rfl
          repeat (first | refine gG ?_ | refine zN1 (fun hlen => ?_) | refine zN2 (fun hlen => ?_) | refine zAl (fun _ => ?_) | refine zAp (fun _ => ?_))
          refine zEr1 ?_
          repeat (first | refine gG ?_ | refine zN1 (fun hlen => ?_) | refine zN2 (fun hlen => ?_) | refine zAl (fun _ => ?_) | refine zAp (fun _ => ?_))
          first | refine zR (ts := [czRow [], .lit (.int .i64 3)]) ?_ | refine zQ (ts := [czRow [], .lit (.int .i64 3)]) ?_
          rw [hno]
          rfl
      | some a =>
        have q1 := atoi_af ha s1
        cases hb : atoiO c2 with
        | none =>
          have q2 := atoi_bad hb s2
          have hno := hno1 (both2_none2 hb)
          repeat (first | refine gG ?_ | refine zN1 (fun hlen => ?_) | refine zN2 (fun hlen => ?_) | refine zAl (fun _ => ?_) | refine zAp (fun _ => ?_))
          refine zIx k hk' ?_
          repeat (first | refine gG ?_ | refine zN1 (fun hlen => ?_) | refine zN2 (fun hlen => ?_) | refine zAl (fun _ => ?_) | refine zAp (fun _ => ?_))
          refine zEl1 hat ?_
          repeat (first | refine gG ?_ | refine zN1 (fun hlen => ?_) | refine zN2 (fun hlen => ?_) | refine zAl (fun _ => ?_) | refine zAp (fun _ => ?_))
          refine zSix 0 rfl ?_
          repeat (first | refine gG ?_ | refine zN1 (fun hlen => ?_) | refine zN2 (fun hlen => ?_) | refine zAl (fun _ => ?_) | refine zAp (fun _ => ?_))
          refine zCall (hix) ?_
          rintro _ rfl
          repeat (first | refine gG ?_ | refine zN1 (fun hlen => ?_) | refine zN2 (fun hlen => ?_) | refine zAl (fun _ => ?_) | refine zAp (fun _ => ?_))
          refine lo_add rfl rfl (IntWalk.i64_in _ (by omega)) ?_
          repeat (first | refine gG ?_ | refine zN1 (fun hlen => ?_) | refine zN2 (fun hlen => ?_) | refine zAl (fun _ => ?_) | refine zAp (fun _ => ?_))
          refine zSpl (l := c :: r) 1 (by simp) ?_
          repeat (first | refine gG ?_ | refine zN1 (fun hlen => ?_) | refine zN2 (fun hlen => ?_) | refine zAl (fun _ => ?_) | refine zAp (fun _ => ?_))
          refine zCall (hcut) ?_
          rintro _ rfl
          repeat (first | refine gG ?_ | refine zN1 (fun hlen => ?_) | refine zN2 (fun hlen => ?_) | refine zAl (fun _ => ?_) | refine zAp (fun _ => ?_))
          refine zCall (q1) ?_
          rintro _ rfl
          repeat (first | refine gG ?_ | refine zN1 (fun hlen => ?_) | refine zN2 (fun hlen => ?_) | refine zAl (fun _ => ?_) | refine zAp (fun _ => ?_))
          refine zCall (q2) ?_
          rintro _ ⟨x2, t2, p2, rfl⟩
          repeat (first | refine gG ?_ | refine zN1 (fun hlen => ?_) | refine zN2 (fun hlen => ?_) | refine zAl (fun _ => ?_) | refine zAp (fun _ => ?_))
          refine zEr0 ?_
          repeat (first | refine gG ?_ | refine zN1 (fun hlen => ?_) | refine zN2 (fun hlen => ?_) | refine zAl (fun _ => ?_) | refine zAp (fun _ => ?_))
          refine zEr1 ?_
          repeat (first | refine gG ?_ | refine zN1 (fun hlen => ?_) | refine zN2 (fun hlen => ?_) | refine zAl (fun _ => ?_) | refine zAp (fun _ => ?_))
          first | refine zR (ts := [czRow [], .lit (.int .i64 3)]) ?_ | refine zQ (ts := [czRow [], .lit (.int .i64 3)]) ?_
          rw [hno]
          rfl
        | some b =>
          have q2 := atoi_af hb s2
          have hyes := hyes1 (a, b) (by rw [ha, hb]; rfl)
          repeat (first | refine gG ?_ | refine zN1 (fun hlen => ?_) | refine zN2 (fun hlen => ?_) | refine zAl (fun _ => ?_) | refine zAp (fun _ => ?_))
          refine zIx k hk' ?_
          repeat (first | refine gG ?_ | refine zN1 (fun hlen => ?_) | refine zN2 (fun hlen => ?_) | refine zAl (fun _ => ?_) | refine zAp (fun _ => ?_))
          refine zEl1 hat ?_
          repeat (first | refine gG ?_ | refine zN1 (fun hlen => ?_) | refine zN2 (fun hlen => ?_) | refine zAl (fun _ => ?_) | refine zAp (fun _ => ?_))
          refine zSix 0 rfl ?_
          repeat (first | refine gG ?_ | refine zN1 (fun hlen => ?_) | refine zN2 (fun hlen => ?_) | refine zAl (fun _ => ?_) | refine zAp (fun _ => ?_))
          refine zCall (hix) ?_
          rintro _ rfl
          repeat (first | refine gG ?_ | refine zN1 (fun hlen => ?_) | refine zN2 (fun hlen => ?_) | refine zAl (fun _ => ?_) | refine zAp (fun _ => ?_))
          refine lo_add rfl rfl (IntWalk.i64_in _ (by omega)) ?_
          repeat (first | refine gG ?_ | refine zN1 (fun hlen => ?_) | refine zN2 (fun hlen => ?_) | refine zAl (fun _ => ?_) | refine zAp (fun _ => ?_))
          refine zSpl (l := c :: r) 1 (by simp) ?_
          repeat (first | refine gG ?_ | refine zN1 (fun hlen => ?_) | refine zN2 (fun hlen => ?_) | refine zAl (fun _ => ?_) | refine zAp (fun _ => ?_))
          refine zCall (hcut) ?_
          rintro _ rfl
          repeat (first | refine gG ?_ | refine zN1 (fun hlen => ?_) | refine zN2 (fun hlen => ?_) | refine zAl (fun _ => ?_) | refine zAp (fun _ => ?_))
          refine zCall (q1) ?_
          rintro _ rfl
          repeat (first | refine gG ?_ | refine zN1 (fun hlen => ?_) | refine zN2 (fun hlen => ?_) | refine zAl (fun _ => ?_) | refine zAp (fun _ => ?_))
          refine zCall (q2) ?_
          rintro _ rfl
          repeat (first | refine gG ?_ | refine zN1 (fun hlen => ?_) | refine zN2 (fun hlen => ?_) | refine zAl (fun _ => ?_) | refine zAp (fun _ => ?_))
          refine zEr0 ?_
          repeat (first | refine gG ?_ | refine zN1 (fun hlen => ?_) | refine zN2 (fun hlen => ?_) | refine zAl (fun _ => ?_) | refine zAp (fun _ => ?_))
          refine zEr0 ?_
          repeat (first | refine gG ?_ | refine zN1 (fun hlen => ?_) | refine zN2 (fun hlen => ?_) | refine zAl (fun _ => ?_) | refine zAp (fun _ => ?_))
          exact ⟨(k + 1, _, acc ++ [⟨ix + 1, a, b⟩]), ⟨hk', by simp only [List.length_append, List.length_singleton]; omega, hyes⟩, by simp only; omega, x_wkd 1 ⟨rfl, rfl, trivial⟩ (by dsimp only; simp only [List.length_append, List.flatMap_append]; rfl) (by repeat (first | exact ag_refl | refine ag_upd rfl ?_ | refine ag_at rfl rfl ?_))⟩
  have hk' : k = L.length := by have : ¬ k < L.length := by simpa using h
                                omega
  subst hk'
  have hP := optTo_end hO
  rw [hP]
  have hI : ∀ c ∈ acc, CzI c := fun c hc => by
    obtain ⟨x, _, hx⟩ := optAll_mem hP c hc
    exact (czP_in hx).i
  have htx := cText_af acc (by omega) hI
  clear h hk hO hP hI
  unfold rdC
  dsimp only
  refine x_fz 4 rfl rfl rfl rfl ?_
  refine x_drop 0 rfl ?_
  generalize ctV acc = tv at *
  obtain ⟨tt, te⟩ := tv
  dsimp only at htx ⊢
  cases d1 : decide (te = 0)
  · rw [Bool.false_and, cond_false]
    repeat (first | refine gG ?_ | refine zN1 (fun hlen => ?_) | refine zN2 (fun hlen => ?_) | refine zAl (fun _ => ?_) | refine zAp (fun _ => ?_))
    refine zCall (htx) ?_
    rintro _ rfl
    repeat (first | refine gG ?_ | refine zN1 (fun hlen => ?_) | refine zN2 (fun hlen => ?_) | refine zAl (fun _ => ?_) | refine zAp (fun _ => ?_))
    first | refine zR (ts := [czRow [], .lit (.int .i64 3)]) ?_ | refine zQ (ts := [czRow [], .lit (.int .i64 3)]) ?_
    rfl
  cases d2 : decide (tt = s)
  · rw [Bool.and_false, cond_false]
    repeat (first | refine gG ?_ | refine zN1 (fun hlen => ?_) | refine zN2 (fun hlen => ?_) | refine zAl (fun _ => ?_) | refine zAp (fun _ => ?_))
    refine zCall (htx) ?_
    rintro _ rfl
    repeat (first | refine gG ?_ | refine zN1 (fun hlen => ?_) | refine zN2 (fun hlen => ?_) | refine zAl (fun _ => ?_) | refine zAp (fun _ => ?_))
    first | refine zR (ts := [czRow [], .lit (.int .i64 3)]) ?_ | refine zQ (ts := [czRow [], .lit (.int .i64 3)]) ?_
    rfl
  · rw [Bool.and_self, cond_true]
    repeat (first | refine gG ?_ | refine zN1 (fun hlen => ?_) | refine zN2 (fun hlen => ?_) | refine zAl (fun _ => ?_) | refine zAp (fun _ => ?_))
    refine zCall (htx) ?_
    rintro _ rfl
    repeat (first | refine gG ?_ | refine zN1 (fun hlen => ?_) | refine zN2 (fun hlen => ?_) | refine zAl (fun _ => ?_) | refine zAp (fun _ => ?_))
    first | refine zR ?_ | refine zQ ?_
    rfl
set_option maxRecDepth 100000 in
set_option maxHeartbeats 8000000 in
theorem cOf_af (s : ByteArray) (hs : s.size < 1048576) : AF Tryd.prog 22 [.lit (.string s)] (· = resC (rdC s (setC czQ s.data.toList))) := by
  rw [setC_B]
  by_cases e0 : s = ⟨#[]⟩
  · subst e0
    rw [if_pos rfl]
    unfold rdC
    dsimp only
    rw [ctV_nil]
    dsimp only
    have dd : decide ((⟨#[]⟩ : ByteArray) = ⟨#[]⟩) = true := decide_eq_true rfl
    rw [dd]
    refine af_enter tok Tryd.func22 Tryd.ntmps22 Tryd.results22 rfl (by kernel_rfl) rfl rfl fun F hX => ?_
    repeat (first | refine gG ?_ | refine zN1 (fun hlen => ?_) | refine zN2 (fun hlen => ?_) | refine zAl (fun _ => ?_) | refine zAp (fun _ => ?_))
    first | refine zR (ts := [czRow [], .lit (.int .i64 0)]) ?_ | refine zQ (ts := [czRow [], .lit (.int .i64 0)]) ?_
    rfl
  rw [if_neg e0]
  have de : decide (s = ⟨#[]⟩) = false := decide_eq_false e0
  have hsp := split_af s ⟨#[32]⟩ (by omega) (by decide)
  have hsz : ∀ x ∈ splS s ⟨#[32]⟩, x.size ≤ 1048575 := fun x hx => by have := splS_size hx; omega
  have hln := splS_le s ⟨#[32]⟩ (by decide)
  generalize splS s ⟨#[32]⟩ = L at *
  clear e0
  refine af_enter tok Tryd.func22 Tryd.ntmps22 Tryd.results22 rfl (by kernel_rfl) rfl rfl fun F hX => ?_
  repeat (first | refine gG ?_ | refine zN1 (fun hlen => ?_) | refine zN2 (fun hlen => ?_) | refine zAl (fun _ => ?_) | refine zAp (fun _ => ?_))
  refine zCall (hsp) ?_
  rintro _ rfl
  clear hsp
  repeat (first | refine gG ?_ | refine zN1 (fun hlen => ?_) | refine zN2 (fun hlen => ?_) | refine zAl (fun _ => ?_) | refine zAp (fun _ => ?_))
  refine x_own 4 49 3 rfl rfl rfl rfl rfl ?_
  refine x_loop [2, 3, 4, 6, 7, 8, 9, 10, 11, 12, 13, 21, 22, 23, 24, 25, 26, 27, 28, 29, 30, 31, 32, 33, 34, 35, 36, 37, 38, 39, 40, 41, 42, 43, 44, 45, 46, 47, 48, 49, 50, 51, 52, 53, 54, 55, 56, 57, 58, 59, 60, 61, 62, 63, 64, 65, 66, 67, 68, 69, 70] (fun y : Nat × Value × List Cz => [(21, .c (.lit (.int .i64 (y.1 : Nat)))), (4, .own 0 y.2.1)]) (fun y => [.row y.2.1 49 3 y.2.2.length (y.2.2.flatMap czTs)]) (fun y => y.1 ≤ L.length ∧ y.2.2.length ≤ y.1 ∧ OptTo (fun x => czQ x.data.toList) L y.1 y.2.2) (fun y => L.length - y.1) (0, .slice none 0 0, []) ⟨Nat.zero_le _, Nat.le_refl _, optTo_zero _ _⟩ ⟨rfl, rfl, trivial⟩ rfl ?_
  rintro ⟨k, v, acc⟩ ⟨hk, hal, hO⟩
  dsimp only at hk hal hO ⊢
  repeat (first | refine gG ?_ | refine zN1 (fun hlen => ?_) | refine zN2 (fun hlen => ?_) | refine zAl (fun _ => ?_) | refine zAp (fun _ => ?_))
  refine x_cond rfl (fun h => ?_) (fun h => ?_)
  · have hk' : k < L.length := by simpa using h
    obtain ⟨x, hx⟩ := nth hk'
    have hxs := hsz x (List.mem_of_getElem? hx)
    have hat := str_at1 hx
    by_cases ex : x = ⟨#[]⟩
    · subst ex
      have hno := optTo_no hO hx rfl
      clear h hx hO hsz
      have dd : decide ((⟨#[]⟩ : ByteArray) = ⟨#[]⟩) = true := decide_eq_true rfl
      repeat (first | refine gG ?_ | refine zN1 (fun hlen => ?_) | refine zN2 (fun hlen => ?_) | refine zAl (fun _ => ?_) | refine zAp (fun _ => ?_))
      refine zIx k hk' ?_
      repeat (first | refine gG ?_ | refine zN1 (fun hlen => ?_) | refine zN2 (fun hlen => ?_) | refine zAl (fun _ => ?_) | refine zAp (fun _ => ?_))
      refine zEl1 hat ?_
      repeat (first | refine gG ?_ | refine zN1 (fun hlen => ?_) | refine zN2 (fun hlen => ?_) | refine zAl (fun _ => ?_) | refine zAp (fun _ => ?_))
      first | refine zR (ts := [czRow [], .lit (.int .i64 3)]) ?_ | refine zQ (ts := [czRow [], .lit (.int .i64 3)]) ?_
      rw [hno]
      rfl
    obtain ⟨c, r, rfl⟩ := str_ne ex
    have dx : decide (bs (c :: r) = ⟨#[]⟩) = false := decide_eq_false ex
    rw [bs_size', List.length_cons] at hxs
    have hrs : (bs r).size ≤ 1048575 := by rw [bs_size']; omega
    have hno2 := fun hb => optTo_no hO hx ((congrArg czQ (bs_data' (c :: r))).trans hb)
    have hyes2 := fun (z : Cz) hb => optTo_yes (b := z) hO hx ((congrArg czQ (bs_data' (c :: r))).trans hb)
    clear h hx hO hsz ex
    have hix := index_af (bs [103, 99, 108]) (bs [c]) (by decide)
    rw [bs_data', bs_data'] at hix
    have hcut := split_af (bs r) ⟨#[45]⟩ (by omega) (by decide)
    have hml := splS_le (bs r) ⟨#[45]⟩ (by decide)
    have hmn := splS_len (bs r) ⟨#[45]⟩ (by decide)
    have hm0 : 0 < (splS (bs r) ⟨#[45]⟩).length := by omega
    clear hmn
    obtain ⟨m1, h1⟩ := nth hm0
    have hpe := czQ_eq (c := c) h1
    have s1 : m1.size ≤ 1048576 := by have := splS_size (List.mem_of_getElem? h1); omega
    have hatA := str_at1 h1
    have s2' : ∀ m2 ∈ splS (bs r) ⟨#[45]⟩, m2.size ≤ 1048576 := fun m2 hm => by have := splS_size hm; omega
    have hi3 := id3 c
    generalize splS (bs r) ⟨#[45]⟩ = M at *
    generalize hkd : Lib.index [103, 99, 108] [c] = ix at *
    have hno1 := fun hb => hno2 (hpe.trans (czM_none hb))
    have hyes1 := fun (p : Int × Int) hb => hyes2 _ (hpe.trans (czM_some (p := p) hb))
    clear hno2 hyes2 hpe hkd
    obtain ⟨hi1, hi2⟩ := hi3
    cases d1 : decide (1 + ix = 2)
    · rw [d1, Bool.false_and] at hno1 hyes1
      clear s2'
      rw [cond_false] at hno1 hyes1
      cases ha : atoiO m1 with
      | none =>
        have q1 := atoi_bad ha s1
        have hno := hno1 (both2_none1 ha)
        repeat (first | refine gG ?_ | refine zN1 (fun hlen => ?_) | refine zN2 (fun hlen => ?_) | refine zAl (fun _ => ?_) | refine zAp (fun _ => ?_))
        refine zIx k hk' ?_
        repeat (first | refine gG ?_ | refine zN1 (fun hlen => ?_) | refine zN2 (fun hlen => ?_) | refine zAl (fun _ => ?_) | refine zAp (fun _ => ?_))
        refine zEl1 hat ?_
        repeat (first | refine gG ?_ | refine zN1 (fun hlen => ?_) | refine zN2 (fun hlen => ?_) | refine zAl (fun _ => ?_) | refine zAp (fun _ => ?_))
        refine zSpt (l := c :: r) 1 (by simp) ?_
        repeat (first | refine gG ?_ | refine zN1 (fun hlen => ?_) | refine zN2 (fun hlen => ?_) | refine zAl (fun _ => ?_) | refine zAp (fun _ => ?_))
        refine zCall (hix) ?_
        rintro _ rfl
        repeat (first | refine gG ?_ | refine zN1 (fun hlen => ?_) | refine zN2 (fun hlen => ?_) | refine zAl (fun _ => ?_) | refine zAp (fun _ => ?_))
        refine lo_add rfl rfl (IntWalk.i64_in _ (by omega)) ?_
        repeat (first | refine gG ?_ | refine zN1 (fun hlen => ?_) | refine zN2 (fun hlen => ?_) | refine zAl (fun _ => ?_) | refine zAp (fun _ => ?_))
        refine zSpl (l := c :: r) 1 (by simp) ?_
        repeat (first | refine gG ?_ | refine zN1 (fun hlen => ?_) | refine zN2 (fun hlen => ?_) | refine zAl (fun _ => ?_) | refine zAp (fun _ => ?_))
        refine zCall (hcut) ?_
        rintro _ rfl
        repeat (first | refine gG ?_ | refine zN1 (fun hlen => ?_) | refine zN2 (fun hlen => ?_) | refine zAl (fun _ => ?_) | refine zAp (fun _ => ?_))
        refine zIx 0 hm0 ?_
        repeat (first | refine gG ?_ | refine zN1 (fun hlen => ?_) | refine zN2 (fun hlen => ?_) | refine zAl (fun _ => ?_) | refine zAp (fun _ => ?_))
        refine zEl1 hatA ?_
        repeat (first | refine gG ?_ | refine zN1 (fun hlen => ?_) | refine zN2 (fun hlen => ?_) | refine zAl (fun _ => ?_) | refine zAp (fun _ => ?_))
        refine zCall (q1) ?_
        rintro _ ⟨x1, t1, p1, rfl⟩
        repeat (first | refine gG ?_ | refine zN1 (fun hlen => ?_) | refine zN2 (fun hlen => ?_) | refine zAl (fun _ => ?_) | refine zAp (fun _ => ?_))
        refine zEr1 ?_
        repeat (first | refine gG ?_ | refine zN1 (fun hlen => ?_) | refine zN2 (fun hlen => ?_) | refine zAl (fun _ => ?_) | refine zAp (fun _ => ?_))
        first | refine zR (ts := [czRow [], .lit (.int .i64 3)]) ?_ | refine zQ (ts := [czRow [], .lit (.int .i64 3)]) ?_
        rw [hno]
        rfl
      | some a =>
        have q1 := atoi_af ha s1
        have hyes := hyes1 (a, 0) (by rw [ha]; rfl)
        repeat (first | refine gG ?_ | refine zN1 (fun hlen => ?_) | refine zN2 (fun hlen => ?_) | refine zAl (fun _ => ?_) | refine zAp (fun _ => ?_))
        refine zIx k hk' ?_
        repeat (first | refine gG ?_ | refine zN1 (fun hlen => ?_) | refine zN2 (fun hlen => ?_) | refine zAl (fun _ => ?_) | refine zAp (fun _ => ?_))
        refine zEl1 hat ?_
        repeat (first | refine gG ?_ | refine zN1 (fun hlen => ?_) | refine zN2 (fun hlen => ?_) | refine zAl (fun _ => ?_) | refine zAp (fun _ => ?_))
        refine zSpt (l := c :: r) 1 (by simp) ?_
        repeat (first | refine gG ?_ | refine zN1 (fun hlen => ?_) | refine zN2 (fun hlen => ?_) | refine zAl (fun _ => ?_) | refine zAp (fun _ => ?_))
        refine zCall (hix) ?_
        rintro _ rfl
        repeat (first | refine gG ?_ | refine zN1 (fun hlen => ?_) | refine zN2 (fun hlen => ?_) | refine zAl (fun _ => ?_) | refine zAp (fun _ => ?_))
        refine lo_add rfl rfl (IntWalk.i64_in _ (by omega)) ?_
        repeat (first | refine gG ?_ | refine zN1 (fun hlen => ?_) | refine zN2 (fun hlen => ?_) | refine zAl (fun _ => ?_) | refine zAp (fun _ => ?_))
        refine zSpl (l := c :: r) 1 (by simp) ?_
        repeat (first | refine gG ?_ | refine zN1 (fun hlen => ?_) | refine zN2 (fun hlen => ?_) | refine zAl (fun _ => ?_) | refine zAp (fun _ => ?_))
        refine zCall (hcut) ?_
        rintro _ rfl
        repeat (first | refine gG ?_ | refine zN1 (fun hlen => ?_) | refine zN2 (fun hlen => ?_) | refine zAl (fun _ => ?_) | refine zAp (fun _ => ?_))
        refine zIx 0 hm0 ?_
        repeat (first | refine gG ?_ | refine zN1 (fun hlen => ?_) | refine zN2 (fun hlen => ?_) | refine zAl (fun _ => ?_) | refine zAp (fun _ => ?_))
        refine zEl1 hatA ?_
        repeat (first | refine gG ?_ | refine zN1 (fun hlen => ?_) | refine zN2 (fun hlen => ?_) | refine zAl (fun _ => ?_) | refine zAp (fun _ => ?_))
        refine zCall (q1) ?_
        rintro _ rfl
        repeat (first | refine gG ?_ | refine zN1 (fun hlen => ?_) | refine zN2 (fun hlen => ?_) | refine zAl (fun _ => ?_) | refine zAp (fun _ => ?_))
        refine zEr0 ?_
        repeat (first | refine gG ?_ | refine zN1 (fun hlen => ?_) | refine zN2 (fun hlen => ?_) | refine zAl (fun _ => ?_) | refine zAp (fun _ => ?_))
        exact ⟨(k + 1, _, acc ++ [⟨1 + ix, a, 0⟩]), ⟨hk', by simp only [List.length_append, List.length_singleton]; omega, hyes⟩, by simp only; omega, x_wkd 1 ⟨rfl, rfl, trivial⟩ (by dsimp only; simp only [List.length_append, List.flatMap_append]; rfl) (by repeat (first | exact ag_refl | refine ag_upd rfl ?_ | refine ag_at rfl rfl ?_))⟩
    cases d2 : decide ((M.length : Int) = 2)
    · rw [d2, Bool.and_false] at hno1 hyes1
      clear s2'
      rw [cond_false] at hno1 hyes1
      cases ha : atoiO m1 with
      | none =>
        have q1 := atoi_bad ha s1
        have hno := hno1 (both2_none1 ha)
        repeat (first | refine gG ?_ | refine zN1 (fun hlen => ?_) | refine zN2 (fun hlen => ?_) | refine zAl (fun _ => ?_) | refine zAp (fun _ => ?_))
        refine zIx k hk' ?_
        repeat (first | refine gG ?_ | refine zN1 (fun hlen => ?_) | refine zN2 (fun hlen => ?_) | refine zAl (fun _ => ?_) | refine zAp (fun _ => ?_))
        refine zEl1 hat ?_
        repeat (first | refine gG ?_ | refine zN1 (fun hlen => ?_) | refine zN2 (fun hlen => ?_) | refine zAl (fun _ => ?_) | refine zAp (fun _ => ?_))
        refine zSpt (l := c :: r) 1 (by simp) ?_
        repeat (first | refine gG ?_ | refine zN1 (fun hlen => ?_) | refine zN2 (fun hlen => ?_) | refine zAl (fun _ => ?_) | refine zAp (fun _ => ?_))
        refine zCall (hix) ?_
        rintro _ rfl
        repeat (first | refine gG ?_ | refine zN1 (fun hlen => ?_) | refine zN2 (fun hlen => ?_) | refine zAl (fun _ => ?_) | refine zAp (fun _ => ?_))
        refine lo_add rfl rfl (IntWalk.i64_in _ (by omega)) ?_
        repeat (first | refine gG ?_ | refine zN1 (fun hlen => ?_) | refine zN2 (fun hlen => ?_) | refine zAl (fun _ => ?_) | refine zAp (fun _ => ?_))
        refine zSpl (l := c :: r) 1 (by simp) ?_
        repeat (first | refine gG ?_ | refine zN1 (fun hlen => ?_) | refine zN2 (fun hlen => ?_) | refine zAl (fun _ => ?_) | refine zAp (fun _ => ?_))
        refine zCall (hcut) ?_
        rintro _ rfl
        repeat (first | refine gG ?_ | refine zN1 (fun hlen => ?_) | refine zN2 (fun hlen => ?_) | refine zAl (fun _ => ?_) | refine zAp (fun _ => ?_))
        refine zIx 0 hm0 ?_
        repeat (first | refine gG ?_ | refine zN1 (fun hlen => ?_) | refine zN2 (fun hlen => ?_) | refine zAl (fun _ => ?_) | refine zAp (fun _ => ?_))
        refine zEl1 hatA ?_
        repeat (first | refine gG ?_ | refine zN1 (fun hlen => ?_) | refine zN2 (fun hlen => ?_) | refine zAl (fun _ => ?_) | refine zAp (fun _ => ?_))
        refine zCall (q1) ?_
        rintro _ ⟨x1, t1, p1, rfl⟩
        repeat (first | refine gG ?_ | refine zN1 (fun hlen => ?_) | refine zN2 (fun hlen => ?_) | refine zAl (fun _ => ?_) | refine zAp (fun _ => ?_))
        refine zEr1 ?_
        repeat (first | refine gG ?_ | refine zN1 (fun hlen => ?_) | refine zN2 (fun hlen => ?_) | refine zAl (fun _ => ?_) | refine zAp (fun _ => ?_))
        first | refine zR (ts := [czRow [], .lit (.int .i64 3)]) ?_ | refine zQ (ts := [czRow [], .lit (.int .i64 3)]) ?_
        rw [hno]
        rfl
      | some a =>
        have q1 := atoi_af ha s1
        have hyes := hyes1 (a, 0) (by rw [ha]; rfl)
        repeat (first | refine gG ?_ | refine zN1 (fun hlen => ?_) | refine zN2 (fun hlen => ?_) | refine zAl (fun _ => ?_) | refine zAp (fun _ => ?_))
        refine zIx k hk' ?_
        repeat (first | refine gG ?_ | refine zN1 (fun hlen => ?_) | refine zN2 (fun hlen => ?_) | refine zAl (fun _ => ?_) | refine zAp (fun _ => ?_))
        refine zEl1 hat ?_
        repeat (first | refine gG ?_ | refine zN1 (fun hlen => ?_) | refine zN2 (fun hlen => ?_) | refine zAl (fun _ => ?_) | refine zAp (fun _ => ?_))
        refine zSpt (l := c :: r) 1 (by simp) ?_
        repeat (first | refine gG ?_ | refine zN1 (fun hlen => ?_) | refine zN2 (fun hlen => ?_) | refine zAl (fun _ => ?_) | refine zAp (fun _ => ?_))
        refine zCall (hix) ?_
        rintro _ rfl
        repeat (first | refine gG ?_ | refine zN1 (fun hlen => ?_) | refine zN2 (fun hlen => ?_) | refine zAl (fun _ => ?_) | refine zAp (fun _ => ?_))
        refine lo_add rfl rfl (IntWalk.i64_in _ (by omega)) ?_
        repeat (first | refine gG ?_ | refine zN1 (fun hlen => ?_) | refine zN2 (fun hlen => ?_) | refine zAl (fun _ => ?_) | refine zAp (fun _ => ?_))
        refine zSpl (l := c :: r) 1 (by simp) ?_
        repeat (first | refine gG ?_ | refine zN1 (fun hlen => ?_) | refine zN2 (fun hlen => ?_) | refine zAl (fun _ => ?_) | refine zAp (fun _ => ?_))
        refine zCall (hcut) ?_
        rintro _ rfl
        repeat (first | refine gG ?_ | refine zN1 (fun hlen => ?_) | refine zN2 (fun hlen => ?_) | refine zAl (fun _ => ?_) | refine zAp (fun _ => ?_))
        refine zIx 0 hm0 ?_
        repeat (first | refine gG ?_ | refine zN1 (fun hlen => ?_) | refine zN2 (fun hlen => ?_) | refine zAl (fun _ => ?_) | refine zAp (fun _ => ?_))
        refine zEl1 hatA ?_
        repeat (first | refine gG ?_ | refine zN1 (fun hlen => ?_) | refine zN2 (fun hlen => ?_) | refine zAl (fun _ => ?_) | refine zAp (fun _ => ?_))
        refine zCall (q1) ?_
        rintro _ rfl
        repeat (first | refine gG ?_ | refine zN1 (fun hlen => ?_) | refine zN2 (fun hlen => ?_) | refine zAl (fun _ => ?_) | refine zAp (fun _ => ?_))
        refine zEr0 ?_
        repeat (first | refine gG ?_ | refine zN1 (fun hlen => ?_) | refine zN2 (fun hlen => ?_) | refine zAl (fun _ => ?_) | refine zAp (fun _ => ?_))
        exact ⟨(k + 1, _, acc ++ [⟨1 + ix, a, 0⟩]), ⟨hk', by simp only [List.length_append, List.length_singleton]; omega, hyes⟩, by simp only; omega, x_wkd 1 ⟨rfl, rfl, trivial⟩ (by dsimp only; simp only [List.length_append, List.flatMap_append]; rfl) (by repeat (first | exact ag_refl | refine ag_upd rfl ?_ | refine ag_at rfl rfl ?_))⟩
    · rw [d1, d2, Bool.and_self, cond_true] at hno1 hyes1
      have hm1 : 1 < M.length := by have := of_decide_eq_true d2; omega
      obtain ⟨m2, h2⟩ := nth hm1
      have hatB := str_at1 h2
      have s2 := s2' m2 (List.mem_of_getElem? h2)
      rw [show M.getD 1 ⟨#[]⟩ = m2 by simp [List.getD_eq_getElem?_getD, h2]] at hno1 hyes1
      clear s2' h1 h2
      cases ha : atoiO m1 with
      | none =>
        have q1 := atoi_bad ha s1
        have hno := hno1 (both2_none1 ha)
        cases hb : atoiO m2 with
        | none =>
          have q2 := atoi_bad hb s2
          repeat (first | refine gG ?_ | refine zN1 (fun hlen => ?_) | refine zN2 (fun hlen => ?_) | refine zAl (fun _ => ?_) | refine zAp (fun _ => ?_))
          refine zIx k hk' ?_
          repeat (first | refine gG ?_ | refine zN1 (fun hlen => ?_) | refine zN2 (fun hlen => ?_) | refine zAl (fun _ => ?_) | refine zAp (fun _ => ?_))
          refine zEl1 hat ?_
          repeat (first | refine gG ?_ | refine zN1 (fun hlen => ?_) | refine zN2 (fun hlen => ?_) | refine zAl (fun _ => ?_) | refine zAp (fun _ => ?_))
          refine zSpt (l := c :: r) 1 (by simp) ?_
          repeat (first | refine gG ?_ | refine zN1 (fun hlen => ?_) | refine zN2 (fun hlen => ?_) | refine zAl (fun _ => ?_) | refine zAp (fun _ => ?_))
          refine zCall (hix) ?_
          rintro _ rfl
          repeat (first | refine gG ?_ | refine zN1 (fun hlen => ?_) | refine zN2 (fun hlen => ?_) | refine zAl (fun _ => ?_) | refine zAp (fun _ => ?_))
          refine lo_add rfl rfl (IntWalk.i64_in _ (by omega)) ?_
          repeat (first | refine gG ?_ | refine zN1 (fun hlen => ?_) | refine zN2 (fun hlen => ?_) | refine zAl (fun _ => ?_) | refine zAp (fun _ => ?_))
          refine zSpl (l := c :: r) 1 (by simp) ?_
          repeat (first | refine gG ?_ | refine zN1 (fun hlen => ?_) | refine zN2 (fun hlen => ?_) | refine zAl (fun _ => ?_) | refine zAp (fun _ => ?_))
          refine zCall (hcut) ?_
          rintro _ rfl
          repeat (first | refine gG ?_ | refine zN1 (fun hlen => ?_) | refine zN2 (fun hlen => ?_) | refine zAl (fun _ => ?_) | refine zAp (fun _ => ?_))
          refine zIx 0 hm0 ?_
          repeat (first | refine gG ?_ | refine zN1 (fun hlen => ?_) | refine zN2 (fun hlen => ?_) | refine zAl (fun _ => ?_) | refine zAp (fun _ => ?_))
          refine zEl1 hatA ?_
          repeat (first | refine gG ?_ | refine zN1 (fun hlen => ?_) | refine zN2 (fun hlen => ?_) | refine zAl (fun _ => ?_) | refine zAp (fun _ => ?_))
          refine zCall (q1) ?_
          rintro _ ⟨x1, t1, p1, rfl⟩
          repeat (first | refine gG ?_ | refine zN1 (fun hlen => ?_) | refine zN2 (fun hlen => ?_) | refine zAl (fun _ => ?_) | refine zAp (fun _ => ?_))
          refine zIx 1 hm1 ?_
          repeat (first | refine gG ?_ | refine zN1 (fun hlen => ?_) | refine zN2 (fun hlen => ?_) | refine zAl (fun _ => ?_) | refine zAp (fun _ => ?_))
          refine zEl1 hatB ?_
          repeat (first | refine gG ?_ | refine zN1 (fun hlen => ?_) | refine zN2 (fun hlen => ?_) | refine zAl (fun _ => ?_) | refine zAp (fun _ => ?_))
          refine zCall (q2) ?_
          rintro _ ⟨x2, t2, p2, rfl⟩
          repeat (first | refine gG ?_ | refine zN1 (fun hlen => ?_) | refine zN2 (fun hlen => ?_) | refine zAl (fun _ => ?_) | refine zAp (fun _ => ?_))
          refine zEr1 ?_
          repeat (first | refine gG ?_ | refine zN1 (fun hlen => ?_) | refine zN2 (fun hlen => ?_) | refine zAl (fun _ => ?_) | refine zAp (fun _ => ?_))
          first | refine zR (ts := [czRow [], .lit (.int .i64 3)]) ?_ | refine zQ (ts := [czRow [], .lit (.int .i64 3)]) ?_
          rw [hno]
          rfl
        | some b =>
          have q2 := atoi_af hb s2
          repeat (first | refine gG ?_ | refine zN1 (fun hlen => ?_) | refine zN2 (fun hlen => ?_) | refine zAl (fun _ => ?_) | refine zAp (fun _ => ?_))
          refine zIx k hk' ?_
          repeat (first | refine gG ?_ | refine zN1 (fun hlen => ?_) | refine zN2 (fun hlen => ?_) | refine zAl (fun _ => ?_) | refine zAp (fun _ => ?_))
          refine zEl1 hat ?_
          repeat (first | refine gG ?_ | refine zN1 (fun hlen => ?_) | refine zN2 (fun hlen => ?_) | refine zAl (fun _ => ?_) | refine zAp (fun _ => ?_))
          refine zSpt (l := c :: r) 1 (by simp) ?_
          repeat (first | refine gG ?_ | refine zN1 (fun hlen => ?_) | refine zN2 (fun hlen => ?_) | refine zAl (fun _ => ?_) | refine zAp (fun _ => ?_))
          refine zCall (hix) ?_
          rintro _ rfl
          repeat (first | refine gG ?_ | refine zN1 (fun hlen => ?_) | refine zN2 (fun hlen => ?_) | refine zAl (fun _ => ?_) | refine zAp (fun _ => ?_))
          refine lo_add rfl rfl (IntWalk.i64_in _ (by omega)) ?_
          repeat (first | refine gG ?_ | refine zN1 (fun hlen => ?_) | refine zN2 (fun hlen => ?_) | refine zAl (fun _ => ?_) | refine zAp (fun _ => ?_))
          refine zSpl (l := c :: r) 1 (by simp) ?_
          repeat (first | refine gG ?_ | refine zN1 (fun hlen => ?_) | refine zN2 (fun hlen => ?_) | refine zAl (fun _ => ?_) | refine zAp (fun _ => ?_))
          refine zCall (hcut) ?_
          rintro _ rfl
          repeat (first | refine gG ?_ | refine zN1 (fun hlen => ?_) | refine zN2 (fun hlen => ?_) | refine zAl (fun _ => ?_) | refine zAp (fun _ => ?_))
          refine zIx 0 hm0 ?_
          repeat (first | refine gG ?_ | refine zN1 (fun hlen => ?_) | refine zN2 (fun hlen => ?_) | refine zAl (fun _ => ?_) | refine zAp (fun _ => ?_))
          refine zEl1 hatA ?_
          repeat (first | refine gG ?_ | refine zN1 (fun hlen => ?_) | refine zN2 (fun hlen => ?_) | refine zAl (fun _ => ?_) | refine zAp (fun _ => ?_))
          refine zCall (q1) ?_
          rintro _ ⟨x1, t1, p1, rfl⟩
          repeat (first | refine gG ?_ | refine zN1 (fun hlen => ?_) | refine zN2 (fun hlen => ?_) | refine zAl (fun _ => ?_) | refine zAp (fun _ => ?_))
          refine zIx 1 hm1 ?_
          repeat (first | refine gG ?_ | refine zN1 (fun hlen => ?_) | refine zN2 (fun hlen => ?_) | refine zAl (fun _ => ?_) | refine zAp (fun _ => ?_))
          refine zEl1 hatB ?_
          repeat (first | refine gG ?_ | refine zN1 (fun hlen => ?_) | refine zN2 (fun hlen => ?_) | refine zAl (fun _ => ?_) | refine zAp (fun _ => ?_))
          refine zCall (q2) ?_
          rintro _ rfl
          repeat (first | refine gG ?_ | refine zN1 (fun hlen => ?_) | refine zN2 (fun hlen => ?_) | refine zAl (fun _ => ?_) | refine zAp (fun _ => ?_))
          refine zEr0 ?_
          repeat (first | refine gG ?_ | refine zN1 (fun hlen => ?_) | refine zN2 (fun hlen => ?_) | refine zAl (fun _ => ?_) | refine zAp (fun _ => ?_))
          refine zEr1 ?_
          repeat (first | refine gG ?_ | refine zN1 (fun hlen => ?_) | refine zN2 (fun hlen => ?_) | refine zAl (fun _ => ?_) | refine zAp (fun _ => ?_))
          first | refine zR (ts := [czRow [], .lit (.int .i64 3)]) ?_ | refine zQ (ts := [czRow [], .lit (.int .i64 3)]) ?_
          rw [hno]
          rfl
      | some a =>
        have q1 := atoi_af ha s1
        cases hb : atoiO m2 with
        | none =>
          have q2 := atoi_bad hb s2
          have hno := hno1 (both2_none2 hb)
          repeat (first | refine gG ?_ | refine zN1 (fun hlen => ?_) | refine zN2 (fun hlen => ?_) | refine zAl (fun _ => ?_) | refine zAp (fun _ => ?_))
          refine zIx k hk' ?_
          repeat (first | refine gG ?_ | refine zN1 (fun hlen => ?_) | refine zN2 (fun hlen => ?_) | refine zAl (fun _ => ?_) | refine zAp (fun _ => ?_))
          refine zEl1 hat ?_
          repeat (first | refine gG ?_ | refine zN1 (fun hlen => ?_) | refine zN2 (fun hlen => ?_) | refine zAl (fun _ => ?_) | refine zAp (fun _ => ?_))
          refine zSpt (l := c :: r) 1 (by simp) ?_
          repeat (first | refine gG ?_ | refine zN1 (fun hlen => ?_) | refine zN2 (fun hlen => ?_) | refine zAl (fun _ => ?_) | refine zAp (fun _ => ?_))
          refine zCall (hix) ?_
          rintro _ rfl
          repeat (first | refine gG ?_ | refine zN1 (fun hlen => ?_) | refine zN2 (fun hlen => ?_) | refine zAl (fun _ => ?_) | refine zAp (fun _ => ?_))
          refine lo_add rfl rfl (IntWalk.i64_in _ (by omega)) ?_
          repeat (first | refine gG ?_ | refine zN1 (fun hlen => ?_) | refine zN2 (fun hlen => ?_) | refine zAl (fun _ => ?_) | refine zAp (fun _ => ?_))
          refine zSpl (l := c :: r) 1 (by simp) ?_
          repeat (first | refine gG ?_ | refine zN1 (fun hlen => ?_) | refine zN2 (fun hlen => ?_) | refine zAl (fun _ => ?_) | refine zAp (fun _ => ?_))
          refine zCall (hcut) ?_
          rintro _ rfl
          repeat (first | refine gG ?_ | refine zN1 (fun hlen => ?_) | refine zN2 (fun hlen => ?_) | refine zAl (fun _ => ?_) | refine zAp (fun _ => ?_))
          refine zIx 0 hm0 ?_
          repeat (first | refine gG ?_ | refine zN1 (fun hlen => ?_) | refine zN2 (fun hlen => ?_) | refine zAl (fun _ => ?_) | refine zAp (fun _ => ?_))
          refine zEl1 hatA ?_
          repeat (first | refine gG ?_ | refine zN1 (fun hlen => ?_) | refine zN2 (fun hlen => ?_) | refine zAl (fun _ => ?_) | refine zAp (fun _ => ?_))
          refine zCall (q1) ?_
          rintro _ rfl
          repeat (first | refine gG ?_ | refine zN1 (fun hlen => ?_) | refine zN2 (fun hlen => ?_) | refine zAl (fun _ => ?_) | refine zAp (fun _ => ?_))
          refine zIx 1 hm1 ?_
          repeat (first | refine gG ?_ | refine zN1 (fun hlen => ?_) | refine zN2 (fun hlen => ?_) | refine zAl (fun _ => ?_) | refine zAp (fun _ => ?_))
          refine zEl1 hatB ?_
          repeat (first | refine gG ?_ | refine zN1 (fun hlen => ?_) | refine zN2 (fun hlen => ?_) | refine zAl (fun _ => ?_) | refine zAp (fun _ => ?_))
          refine zCall (q2) ?_
          rintro _ ⟨x2, t2, p2, rfl⟩
          repeat (first | refine gG ?_ | refine zN1 (fun hlen => ?_) | refine zN2 (fun hlen => ?_) | refine zAl (fun _ => ?_) | refine zAp (fun _ => ?_))
          refine zEr1 ?_
          repeat (first | refine gG ?_ | refine zN1 (fun hlen => ?_) | refine zN2 (fun hlen => ?_) | refine zAl (fun _ => ?_) | refine zAp (fun _ => ?_))
          first | refine zR (ts := [czRow [], .lit (.int .i64 3)]) ?_ | refine zQ (ts := [czRow [], .lit (.int .i64 3)]) ?_
          rw [hno]
          rfl
        | some b =>
          have q2 := atoi_af hb s2
          have hyes := hyes1 (a, b) (by rw [ha, hb]; rfl)
          repeat (first | refine gG ?_ | refine zN1 (fun hlen => ?_) | refine zN2 (fun hlen => ?_) | refine zAl (fun _ => ?_) | refine zAp (fun _ => ?_))
          refine zIx k hk' ?_
          repeat (first | refine gG ?_ | refine zN1 (fun hlen => ?_) | refine zN2 (fun hlen => ?_) | refine zAl (fun _ => ?_) | refine zAp (fun _ => ?_))
          refine zEl1 hat ?_
          repeat (first | refine gG ?_ | refine zN1 (fun hlen => ?_) | refine zN2 (fun hlen => ?_) | refine zAl (fun _ => ?_) | refine zAp (fun _ => ?_))
          refine zSpt (l := c :: r) 1 (by simp) ?_
          repeat (first | refine gG ?_ | refine zN1 (fun hlen => ?_) | refine zN2 (fun hlen => ?_) | refine zAl (fun _ => ?_) | refine zAp (fun _ => ?_))
          refine zCall (hix) ?_
          rintro _ rfl
          repeat (first | refine gG ?_ | refine zN1 (fun hlen => ?_) | refine zN2 (fun hlen => ?_) | refine zAl (fun _ => ?_) | refine zAp (fun _ => ?_))
          refine lo_add rfl rfl (IntWalk.i64_in _ (by omega)) ?_
          repeat (first | refine gG ?_ | refine zN1 (fun hlen => ?_) | refine zN2 (fun hlen => ?_) | refine zAl (fun _ => ?_) | refine zAp (fun _ => ?_))
          refine zSpl (l := c :: r) 1 (by simp) ?_
          repeat (first | refine gG ?_ | refine zN1 (fun hlen => ?_) | refine zN2 (fun hlen => ?_) | refine zAl (fun _ => ?_) | refine zAp (fun _ => ?_))
          refine zCall (hcut) ?_
          rintro _ rfl
          repeat (first | refine gG ?_ | refine zN1 (fun hlen => ?_) | refine zN2 (fun hlen => ?_) | refine zAl (fun _ => ?_) | refine zAp (fun _ => ?_))
          refine zIx 0 hm0 ?_
          repeat (first | refine gG ?_ | refine zN1 (fun hlen => ?_) | refine zN2 (fun hlen => ?_) | refine zAl (fun _ => ?_) | refine zAp (fun _ => ?_))
          refine zEl1 hatA ?_
          repeat (first | refine gG ?_ | refine zN1 (fun hlen => ?_) | refine zN2 (fun hlen => ?_) | refine zAl (fun _ => ?_) | refine zAp (fun _ => ?_))
          refine zCall (q1) ?_
          rintro _ rfl
          repeat (first | refine gG ?_ | refine zN1 (fun hlen => ?_) | refine zN2 (fun hlen => ?_) | refine zAl (fun _ => ?_) | refine zAp (fun _ => ?_))
          refine zIx 1 hm1 ?_
          repeat (first | refine gG ?_ | refine zN1 (fun hlen => ?_) | refine zN2 (fun hlen => ?_) | refine zAl (fun _ => ?_) | refine zAp (fun _ => ?_))
          refine zEl1 hatB ?_
          repeat (first | refine gG ?_ | refine zN1 (fun hlen => ?_) | refine zN2 (fun hlen => ?_) | refine zAl (fun _ => ?_) | refine zAp (fun _ => ?_))
          refine zCall (q2) ?_
          rintro _ rfl
          repeat (first | refine gG ?_ | refine zN1 (fun hlen => ?_) | refine zN2 (fun hlen => ?_) | refine zAl (fun _ => ?_) | refine zAp (fun _ => ?_))
          refine zEr0 ?_
          repeat (first | refine gG ?_ | refine zN1 (fun hlen => ?_) | refine zN2 (fun hlen => ?_) | refine zAl (fun _ => ?_) | refine zAp (fun _ => ?_))
          refine zEr0 ?_
          repeat (first | refine gG ?_ | refine zN1 (fun hlen => ?_) | refine zN2 (fun hlen => ?_) | refine zAl (fun _ => ?_) | refine zAp (fun _ => ?_))
          exact ⟨(k + 1, _, acc ++ [⟨1 + ix, a, b⟩]), ⟨hk', by simp only [List.length_append, List.length_singleton]; omega, hyes⟩, by simp only; omega, x_wkd 1 ⟨rfl, rfl, trivial⟩ (by dsimp only; simp only [List.length_append, List.flatMap_append]; rfl) (by repeat (first | exact ag_refl | refine ag_upd rfl ?_ | refine ag_at rfl rfl ?_))⟩
  have hk' : k = L.length := by have : ¬ k < L.length := by simpa using h
                                omega
  subst hk'
  have hP := optTo_end hO
  rw [hP]
  have hI : ∀ c ∈ acc, CzI c := fun c hc => by
    obtain ⟨x, _, hx⟩ := optAll_mem hP c hc
    exact (czQ_in hx).i
  have htx := refCText_af acc (by omega) hI
  clear h hk hO hP hI
  unfold rdC
  dsimp only
  refine x_fz 4 rfl rfl rfl rfl ?_
  refine x_drop 0 rfl ?_
  generalize ctV acc = tv at *
  obtain ⟨tt, te⟩ := tv
  dsimp only at htx ⊢
  cases d1 : decide (te = 0)
  · rw [Bool.false_and, cond_false]
    repeat (first | refine gG ?_ | refine zN1 (fun hlen => ?_) | refine zN2 (fun hlen => ?_) | refine zAl (fun _ => ?_) | refine zAp (fun _ => ?_))
    refine zCall (htx) ?_
    rintro _ rfl
    repeat (first | refine gG ?_ | refine zN1 (fun hlen => ?_) | refine zN2 (fun hlen => ?_) | refine zAl (fun _ => ?_) | refine zAp (fun _ => ?_))
    first | refine zR (ts := [czRow [], .lit (.int .i64 3)]) ?_ | refine zQ (ts := [czRow [], .lit (.int .i64 3)]) ?_
    rfl
  cases d2 : decide (tt = s)
  · rw [Bool.and_false, cond_false]
    repeat (first | refine gG ?_ | refine zN1 (fun hlen => ?_) | refine zN2 (fun hlen => ?_) | refine zAl (fun _ => ?_) | refine zAp (fun _ => ?_))
    refine zCall (htx) ?_
    rintro _ rfl
    repeat (first | refine gG ?_ | refine zN1 (fun hlen => ?_) | refine zN2 (fun hlen => ?_) | refine zAl (fun _ => ?_) | refine zAp (fun _ => ?_))
    first | refine zR (ts := [czRow [], .lit (.int .i64 3)]) ?_ | refine zQ (ts := [czRow [], .lit (.int .i64 3)]) ?_
    rfl
  · rw [Bool.and_self, cond_true]
    repeat (first | refine gG ?_ | refine zN1 (fun hlen => ?_) | refine zN2 (fun hlen => ?_) | refine zAl (fun _ => ?_) | refine zAp (fun _ => ?_))
    refine zCall (htx) ?_
    rintro _ rfl
    repeat (first | refine gG ?_ | refine zN1 (fun hlen => ?_) | refine zN2 (fun hlen => ?_) | refine zAl (fun _ => ?_) | refine zAp (fun _ => ?_))
    first | refine zR ?_ | refine zQ ?_
    rfl
end Go.Proofs.YtadlmkgeplnemaaDoor
namespace Go.Proofs.YtadlmkgeplnemaaDoor
open Go.RowKit
def isSt3 (P : Program) (t : TypeId) : Option TypeId := match P.underlying t with
  | some (.struct fs) => match fs.toList with
    | [f, g, h] => if f.name ≠ "_" ∧ g.name ≠ "_" ∧ h.name ≠ "_" ∧ f.offset = 0 ∧ g.offset = 1 ∧ h.offset = 2 ∧ f.type = g.type ∧ f.type = h.type ∧ P.stoodInHeld t = false then some f.type else none
    | _ => none
  | _ => none
theorem eq_st3 {P : Program} {t e : TypeId} (h : isSt3 P t = some e) (hu : P.underlying e = some (.int .i64)) (hp : ∀ w, Sem.run P (isAgg e) w = .ok false w) (w : World) (a b c : Int) : (Op.equalIn 10000 t (.agg [.int .i64 a, .int .i64 b, .int .i64 c].toArray) (.agg [.int .i64 a, .int .i64 b, .int .i64 c].toArray)).run P w = .ok true w := by
  obtain ⟨fs, f, g, k, hus, hfs, hh⟩ : ∃ (fs : Array Field) (f g k : Field), P.underlying t = some (.struct fs) ∧ fs.toList = [f, g, k] ∧ (f.name ≠ "_" ∧ g.name ≠ "_" ∧ k.name ≠ "_" ∧ f.offset = 0 ∧ g.offset = 1 ∧ k.offset = 2 ∧ f.type = e ∧ g.type = e ∧ k.type = e ∧ P.stoodInHeld t = false) := by
    unfold isSt3 at h
    split at h
    · rename_i fs he
      split at h
      · rename_i f g k hl
        split at h
        · rename_i hh
          injection h with h
          exact ⟨fs, f, g, k, he, hl, hh.1, hh.2.1, hh.2.2.1, hh.2.2.2.1, hh.2.2.2.2.1, hh.2.2.2.2.2.1, h, by rw [← hh.2.2.2.2.2.2.1, h], by rw [← hh.2.2.2.2.2.2.2.1, h], hh.2.2.2.2.2.2.2.2⟩
        · cases h
      · cases h
    · cases h
  obtain ⟨n1, n2, n3, o1, o2, o3, t1, t2, t3, hst⟩ := hh
  obtain rfl : fs = #[f, g, k] := by cases fs; simp_all
  have hf : P.fieldsOf t = #[f, g, k] := by simp [Program.fieldsOf, hus]
  rw [show (10000 : Nat) = 9999 + 1 from rfl, run_equalIn_struct w 9999 t _ _ (by rw [hf]; exact hus) hst, hf]
  show (Op.eqFields 9999 _ _ [f, g, k]).run P w = _
  simp [Op.eqFields, n1, n2, n3, o1, o2, o3, t1, t2, t3, part, hp, run_equalIn_int w _ _ _ _ _ _ hu]
theorem cz_guard : Tryd.prog.eqGuardType Tryd.prog.depth 49 = false := by kernel_rfl
set_option maxRecDepth 100000 in
theorem lo_neqC {F : Frm} {d : Option Tmp} {ty : TypeId} {pos : String} {aft : Array Edge} {g : Option (Nat × Bool)} {ρ : Operand → AV} {hp : List Blk} {K : AV → List Blk → Prop} {t' : TypeId} {x y : Operand} (u : Cz) (h : K (.c (.lit (.bool false))) hp) (hx : ρ x = .c (.agg (czTs u))) (hy : ρ y = .c (.agg (czTs u))) : LO Tryd.prog F ⟨d, .binOp .neq 49 x y t', ty, pos, aft, g⟩ ρ hp K := by
  obtain ⟨k, a, b⟩ := u
  refine LO.same (fun M e w he hh => ?_) h
  have h1 := he x (by simp [Op.operands])
  rw [hx] at h1
  have h2 := he y (by simp [Op.operands])
  rw [hy] at h2
  simp only [RA, RT, czTs, RTs] at h1 h2
  obtain ⟨xs, h1, q0, r0, rfl, rfl, q1, r1, rfl, rfl, q2, r2, rfl, rfl, rfl⟩ := h1
  obtain ⟨ys, h2, q0, r0, rfl, rfl, q1, r1, rfl, rfl, q2, r2, rfl, rfl, rfl⟩ := h2
  refine ⟨.bool false, ?_, by simp only [RA, RT]⟩
  have hg := run_eqGuard_agg (P := Tryd.prog) w .neq 49 x y [.int .i64 k, .int .i64 a, .int .i64 b].toArray [.int .i64 k, .int .i64 a, .int .i64 b].toArray cz_guard
  have hr := run_neq_struct (P := Tryd.prog) w 49 [.int .i64 k, .int .i64 a, .int .i64 b].toArray [.int .i64 k, .int .i64 a, .int .i64 b].toArray
  have he2 := eq_st3 (P := Tryd.prog) (t := 49) (e := 3) (by kernel_rfl) Tryd.underlying3 (by intro w; simp [Tryd.isAgg3]) w k a b
  rw [he2, Result.andThen_ok] at hr
  simp [execOp, h1, h2, hg, hr]
set_option maxRecDepth 100000 in
set_option maxHeartbeats 1000000 in
theorem equalC_af (l : List Cz) : AF Tryd.prog 23 [czRow l, czRow l] (· = .lit (.bool true)) := by
  have q1 : decide (((l.length : Nat) : Int) = ((l.length : Nat) : Int)) = true := decide_eq_true rfl
  refine af_enter tok Tryd.func23 Tryd.ntmps23 Tryd.results23 rfl (by kernel_rfl) rfl rfl fun F hX => ?_
  repeat (first | refine gG ?_ | refine zN1 (fun hlen => ?_) | refine zN2 (fun hlen => ?_))
  refine x_loop [4, 5, 13, 14, 15, 16, 17, 18, 19, 20, 21, 22, 23, 24, 25] (fun k : Nat => [(13, .c (.lit (.int .i64 (k : Nat))))]) (fun _ => []) (fun k => k ≤ l.length) (fun k => l.length - k) 0 (Nat.zero_le _) ⟨rfl, trivial⟩ rfl ?_
  rintro k hk
  repeat (first | refine gG ?_ | refine zN1 (fun hlen => ?_) | refine zN2 (fun hlen => ?_))
  refine x_cond rfl (fun h => ?_) (fun h => ?_)
  · have hk' : k < l.length := by simpa using h
    obtain ⟨r, hr⟩ := nth hk'
    have hat := Cz.at hr
    clear h hr
    repeat (first | refine gG ?_ | refine zN1 (fun hlen => ?_) | refine zN2 (fun hlen => ?_))
    refine ac_draw [1, 1, 1, 1, 1, 1, 1, 1, 1] [0, 1, 2, 3, 4, 5, 6, 7, 8] (by kernel_rfl) (by kernel_rfl) ?_
    refine gW ?_
    apply w_q; (focus exact rfl); (focus exact rfl); focus (intro _; (refine zIx k hk' ?_); exact det_refl)
    apply w_q; (focus exact rfl); (focus exact rfl); focus (intro _; (refine zEl hat (czTs_len _) ?_); exact det_refl)
    refine gW ?_
    apply w_q; (focus exact rfl); (focus exact rfl); focus (intro _; (refine zIx k hk' ?_); exact det_refl)
    apply w_q; (focus exact rfl); (focus exact rfl); focus (intro _; (refine zEl hat (czTs_len _) ?_); exact det_refl)
    apply w_q; (focus exact rfl); (focus exact rfl); focus (intro _; (refine lo_neqC r ?_ rfl rfl); exact det_refl)
    refine w_nil ?_
    repeat (first | refine gG ?_ | refine zN1 (fun hlen => ?_) | refine zN2 (fun hlen => ?_))
    exact ⟨k + 1, hk', by omega, x_wkd 0 ⟨rfl, trivial⟩ rfl (by repeat (first | exact ag_refl | refine ag_upd rfl ?_ | refine ag_at rfl rfl ?_))⟩
  · have hk' : k = l.length := by
      have : ¬ k < l.length := by simpa using h
      omega
    subst hk'
    clear h
    repeat (first | refine gG ?_ | refine zN1 (fun hlen => ?_) | refine zN2 (fun hlen => ?_))
    first | refine zR ?_ | refine zQ ?_
    rfl
theorem ct_g2 : ctV [⟨1, 2, 0⟩] = (⟨#[103, 50]⟩, 0) := by
  have h1 : Lib.itoa 2 = [50] := by rw [itoa_nat (by decide)]; exact Lib.decDigits_one (by decide)
  rw [ctV_good (by decide)]
  unfold ctL itC ltrL
  simp only [List.map_cons, List.map_nil, Lib.join_one, h1]
  rfl
set_option maxRecDepth 100000 in
set_option maxHeartbeats 4000000 in
theorem replayTexts_law (l : List Cz) (s : ByteArray) (hl : l.length ≤ 1048577) (hi : ∀ c ∈ l, CzI c) (hs : s.size < 1048576) : AF Tryd.prog 5 [czRow l, .lit (.string s)] (· = .lit (.bool true)) := by
  have h0 := cText_af [⟨1, 2, 0⟩] (by decide) (by intro c hc; rw [List.mem_singleton] at hc; subst hc; exact ⟨by decide, by decide⟩)
  rw [ct_g2] at h0
  have h1 := cText_af l hl hi
  have h3 := refCText_af l hl hi
  have h4 := cRead_af s hs
  have h5 := cOf_af s hs
  rw [← rdC_same s] at h5
  generalize rdC s (setC czP s.data.toList) = R at *
  generalize ctV l = tv at *
  obtain ⟨tt, te⟩ := tv
  obtain ⟨x, e⟩ := R
  have h6 := equalC_af x
  clear hs hl hi
  dsimp only [resC] at h0 h1 h3 h4 h5
  have d0 : decide ((⟨#[103, 50]⟩ : ByteArray) = ⟨#[103, 50]⟩) = true := decide_eq_true rfl
  have d1 : decide (tt = tt) = true := decide_eq_true rfl
  have d2 : decide (te = te) = true := decide_eq_true rfl
  have d3 : decide (e = e) = true := decide_eq_true rfl
  refine af_enter tok Tryd.func5 Tryd.ntmps5 Tryd.results5 rfl (by kernel_rfl) rfl rfl fun F hX => ?_
  repeat (first | refine gG ?_)
  refine zCall (h0) ?_
  rintro _ rfl
  clear h0
  repeat (first | refine gG ?_)
  refine zCall (h1) ?_
  rintro _ rfl
  clear h1
  repeat (first | refine gG ?_)
  refine zCall (h3) ?_
  rintro _ rfl
  clear h3
  repeat (first | refine gG ?_)
  refine zCall (h4) ?_
  rintro _ rfl
  clear h4
  repeat (first | refine gG ?_)
  refine zCall (h5) ?_
  rintro _ rfl
  clear h5
  repeat (first | refine gG ?_)
  refine zCall (h6) ?_
  rintro _ rfl
  repeat (first | refine gG ?_)
  first | refine zR ?_ | refine zQ ?_
  rw [d3]
  rfl
end Go.Proofs.YtadlmkgeplnemaaDoor
namespace Go.Proofs.YtadlmkgeplnemaaDoor
open Go.ChangeShapes Go.WideShapes Go.ChangeAt Go.RowKit Go.Deep
section
variable {H : Type} {enc : TypeId × Value → H} {P : Program} {w : World} {base : Nat} {spare : Nat → Bool} {held : Bool}
theorem bulk_one (d : DataW H) : 1 ≤ Rows.uptoBulk d := by
  cases d with
  | lit l => cases l <;> simp [Rows.uptoBulk]
  | _ => simp [Rows.uptoBulk]
end
end Go.Proofs.YtadlmkgeplnemaaDoor
namespace Go.Proofs.YtadlmkgeplnemaaDoor
open Go.ChangeShapes Go.WideShapes Go.ChangeAt Go.RowKit
theorem own : ownKnob Tryd.prog.godebug = none := by kernel_rfl
theorem laidOut : laidOutB Tryd.prog = true := by kernel_rfl
section
variable {H : Type} {enc : TypeId × Value → H}
theorem trodAll_below {P : Program} (hl : laidOutB P = true) {W W' : World} (hb : Below W.heap.size W W') (ts : List TypeId) : ∀ (vs : List Value) (ds : List (DataW H)) (ps : List MemPlace),
    (ts.all fun t => P.readableRec t && decide (t < P.types.size)) = true → DataW.TrodAll enc P W 0 (fun _ => true) true ts vs ds ps → (∀ x ∈ ps, x.block < W.heap.size) →
    DataW.TrodAll enc P W' 0 (fun b => decide (b < W.heap.size)) true ts vs ds ps := by
  induction ts with
  | nil =>
    intro vs ds ps _ h _
    obtain ⟨rfl, rfl, rfl⟩ := trodAll_nil h
    rfl
  | cons t ts ih =>
    intro vs ds ps hr h hlt
    obtain ⟨v, vs', d, ds', p, q, rfl, rfl, rfl, h0, h1⟩ := trodAll_cons h
    simp only [List.all_cons, Bool.and_eq_true, decide_eq_true_eq] at hr
    refine ⟨p, q, Below.trod hl hr.1.1 hr.1.2 h0 hb fun x hx => hlt x (List.mem_append_left _ hx), ?_, rfl⟩
    exact ih vs' ds' q hr.2 h1 fun x hx => hlt x (List.mem_append_right _ hx)
theorem law_post {f : Func} {s : ChangeSpec} {W W' : World} {args : Array Value} {ds gs : List (DataW H)} {before : List MemPlace}
    (hW : DataW.Whole enc Tryd.prog f.params.toList s.vars false W args.toList ds gs before) (hv : s.vars = []) (hrt : f.resultTypes = #[4])
    (hr : (f.params.toList.all fun t => Tryd.prog.readableRec t && decide (t < Tryd.prog.types.size)) = true)
    (hres : (s.fn H (ds ++ gs)).results = [.lit (.bool true)]) (hargs : (s.fn H (ds ++ gs)).args = ds) (hvars : (s.fn H (ds ++ gs)).vars = []) (hb : Below W.heap.size W W') :
    s.post enc Tryd.prog f false true false false W args (.bool true) W' := by
  have hlt : ∀ p ∈ before, p.block < W.heap.size := fun p hp => hW.lt p hp
  have hW' := hW
  obtain ⟨p, q, hA, hV, rfl, _, _⟩ := hW'
  rw [hv] at hV
  obtain ⟨rfl, rfl⟩ := trodVars_none hV
  rw [List.append_nil] at hlt
  refine ⟨ds, [], _, [], p, [], hW, ?_, ?_, ?_, hb.frame _ |> World.keptBut_mono (fun x hx => ⟨hx, ?_⟩), fun h => by cases h⟩
  · rw [hrt, hres]
    exact trodAll_mk1 (shut_bool Tryd.underlying4 true)
  · rw [hargs]
    exact trodAll_below laidOut hb _ _ _ _ hr hA hlt
  · rw [hvars, hv]
    rfl
  · rw [List.append_nil] at hx
    exact .inr (.inl hx)
end
end Go.Proofs.YtadlmkgeplnemaaDoor
