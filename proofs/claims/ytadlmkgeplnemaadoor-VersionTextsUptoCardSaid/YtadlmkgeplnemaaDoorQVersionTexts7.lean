/-
  Texts of this proof, part 7: Lkd Lke Open Law OpenT OpenG OpenVr.
-/
import Derived.Test.YtadlmkgeplnemaaDoorQVersionTexts6
import Derived.Deep.Slices
import Derived.JoinedCond
import Derived.Laws.IdiomRangeMap
import Derived.Laws.Strings2
import Derived.Lib.AppendStr
import Derived.Lib.AppendZerosOnto
import Derived.Lib.MinMax
import Derived.MapKept
import Derived.OpenShut
import Derived.ProofKit
import Derived.Test.YtadlmkgeplnemaaDoorRows
namespace Go.Proofs.YtadlmkgeplnemaaDoor
open Go.RowKit
theorem str_at1 {l : List ByteArray} {k : Nat} {s : ByteArray} (h : l[k]? = some s) : (l.flatMap strTs)[k * 1]? = some (.lit (.string s)) := by rw [Nat.mul_one]; exact str_at h
theorem bs_data' (l : List UInt8) : (bs l).data.toList = l := by simp [bs]
theorem atoiO_eq (s : ByteArray) : atoiO s = atoiL s.data.toList := rfl
theorem optAll_map {α β γ : Type} (f : β → Option γ) (g : α → β) : ∀ l : List α, optAll f (l.map g) = optAll (fun a => f (g a)) l
  | [] => rfl
  | a :: l => by rw [List.map_cons, optAll, optAll, optAll_map f g l]
def rgPB (x : ByteArray) : Option Rg := rgP x.data.toList
def rgQB (x : ByteArray) : Option Rg := rgQ x.data.toList
theorem rgPB_eq (x : ByteArray) : rgPB x = both2 (atoiO (cutB x ⟨#[45]⟩).1) (atoiO (bif (cutB x ⟨#[45]⟩).2.2 then (cutB x ⟨#[45]⟩).2.1 else (cutB x ⟨#[45]⟩).1)) := by
  unfold rgPB rgP cutB
  rw [atoiO_eq, atoiO_eq]
  dsimp only
  rw [bs_data']
  cases (Lib.cut x.data.toList [45]).2.2
  · rw [cond_false, cond_false, bs_data']
  · rw [cond_true, cond_true, bs_data']
theorem setP_B {f : List UInt8 → Option Rg} (s : ByteArray) : setP f s.data.toList = if s = ⟨#[]⟩ then some [] else optAll (fun x => f x.data.toList) (splS s ⟨#[44]⟩) := by
  unfold setP
  have h : s.data.toList = [] ↔ s = ⟨#[]⟩ := by
    constructor
    · intro h
      rw [← bs_self s, h]
      rfl
    · intro h; rw [h]
  by_cases e : s = ⟨#[]⟩
  · rw [if_pos e, if_pos (h.2 e)]
  · have h2 := splS_data s ⟨#[44]⟩
    change _ = Lib.split s.data.toList [44] at h2
    rw [if_neg e, if_neg fun h1 => e (h.1 h1), ← h2, optAll_map]
theorem split_le (sep : List UInt8) (save : Nat) : ∀ (k : Nat) (s x : List UInt8), x ∈ Lib.splitK sep save k s → x.length ≤ s.length
  | 0, s, x, h => by rw [Lib.splitK, List.mem_singleton] at h; rw [h]; exact Nat.le_refl _
  | k + 1, s, x, h => by
    rw [Lib.splitK] at h
    split at h
    · rw [List.mem_singleton] at h; rw [h]; exact Nat.le_refl _
    · rcases List.mem_cons.1 h with h | h
      · rw [h, List.length_take]; omega
      · have := split_le sep save k _ x h
        rw [List.length_drop] at this
        omega
theorem size_data (s : ByteArray) : s.size = s.data.toList.length := by cases s; simp [ByteArray.size]
theorem splS_size {s sep x : ByteArray} (h : x ∈ splS s sep) : x.size ≤ s.size := by
  have h1 : x.data.toList ∈ Lib.split s.data.toList sep.data.toList := by rw [← splS_data]; exact List.mem_map_of_mem h
  rw [size_data, size_data]
  exact split_le _ _ _ _ _ h1
theorem cutB_size (s sep : ByteArray) : (cutB s sep).1.size ≤ s.size ∧ (cutB s sep).2.1.size ≤ s.size := by
  unfold cutB
  dsimp only
  rw [bs_size', bs_size', size_data]
  unfold Lib.cut
  split
  · simp only [List.length_take, List.length_drop]
    omega
  · simp
theorem both2_none1 {a b : Option Int} (h : a = none) : both2 a b = none := by rw [h]; rfl
theorem both2_none2 {a b : Option Int} (h : b = none) : both2 a b = none := by rw [h]; cases a <;> rfl
theorem vtV_nil : vtV [] = (⟨#[]⟩, 0) := by
  unfold vtV
  rw [show faultL [] = 0 from rfl]
  rfl
set_option maxRecDepth 100000 in
set_option maxHeartbeats 8000000 in
theorem vRead_af (s : ByteArray) (hs : s.size < 1048576) : AF Tryd.prog 16 [.lit (.string s)] (· = resT (rdV s (setP rgP s.data.toList))) := by
  rw [setP_B]
  by_cases e0 : s = ⟨#[]⟩
  · subst e0
    rw [if_pos rfl]
    have htx := vText_af []
    unfold rdV
    dsimp only
    rw [vtV_nil] at htx ⊢
    dsimp only at htx ⊢
    have dd : decide ((⟨#[]⟩ : ByteArray) = ⟨#[]⟩) = true := decide_eq_true rfl
    rw [dd]
    refine af_enter tok Tryd.func16 Tryd.ntmps16 Tryd.results16 rfl (by kernel_rfl) rfl rfl fun F hX => ?_
    repeat (first | refine gG ?_ | refine zN1 (fun hlen => ?_) | refine zN2 (fun hlen => ?_) | refine zAp (fun _ => ?_))
    refine zCall (htx) ?_
    rintro _ rfl
    repeat (first | refine gG ?_ | refine zN1 (fun hlen => ?_) | refine zN2 (fun hlen => ?_) | refine zAp (fun _ => ?_))
    first | refine zR (ts := [rgRow [], .lit (.int .i64 0)]) ?_ | refine zQ (ts := [rgRow [], .lit (.int .i64 0)]) ?_
    rfl
  rw [if_neg e0]
  have de : decide (s = ⟨#[]⟩) = false := decide_eq_false e0
  have hsp := split_af s ⟨#[44]⟩ (by omega) (by decide)
  have hsz : ∀ x ∈ splS s ⟨#[44]⟩, x.size ≤ 1048576 := fun x hx => by have := splS_size hx; omega
  have hln := splS_le s ⟨#[44]⟩ (by decide)
  change AF _ _ _ (· = resT (rdV s (optAll rgPB (splS s ⟨#[44]⟩))))
  generalize splS s ⟨#[44]⟩ = L at *
  clear e0
  refine af_enter tok Tryd.func16 Tryd.ntmps16 Tryd.results16 rfl (by kernel_rfl) rfl rfl fun F hX => ?_
  repeat (first | refine gG ?_ | refine zN1 (fun hlen => ?_) | refine zN2 (fun hlen => ?_) | refine zAp (fun _ => ?_))
  refine zCall (hsp) ?_
  rintro _ rfl
  clear hsp
  repeat (first | refine gG ?_ | refine zN1 (fun hlen => ?_) | refine zN2 (fun hlen => ?_) | refine zAp (fun _ => ?_))
  refine x_own 4 36 2 rfl rfl rfl rfl rfl ?_
  refine x_loop [2, 3, 4, 6, 7, 8, 9, 10, 11, 12, 13, 21, 22, 23, 24, 25, 26, 27, 28, 29, 30, 31, 32, 33, 34, 35, 36, 37, 38, 39, 40, 41, 42, 43, 44, 45, 46, 47, 48, 49, 50, 51, 52, 53, 54, 55, 56] (fun y : Nat × Value × List Rg => [(21, .c (.lit (.int .i64 (y.1 : Nat)))), (4, .own 0 y.2.1)]) (fun y => [.row y.2.1 36 2 y.2.2.length (y.2.2.flatMap rgTs)]) (fun y => y.1 ≤ L.length ∧ y.2.2.length ≤ y.1 ∧ OptTo rgPB L y.1 y.2.2) (fun y => L.length - y.1) (0, .slice none 0 0, []) ⟨Nat.zero_le _, Nat.le_refl _, optTo_zero _ _⟩ ⟨rfl, rfl, trivial⟩ rfl ?_
  rintro ⟨k, v, acc⟩ ⟨hk, hal, hO⟩
  dsimp only at hk hal hO ⊢
  repeat (first | refine gG ?_ | refine zN1 (fun hlen => ?_) | refine zN2 (fun hlen => ?_) | refine zAp (fun _ => ?_))
  refine x_cond rfl (fun h => ?_) (fun h => ?_)
  · have hk' : k < L.length := by simpa using h
    obtain ⟨x, hx⟩ := nth hk'
    have hxs := hsz x (List.mem_of_getElem? hx)
    have hat := str_at1 hx
    have hcut := cut_af x ⟨#[45]⟩ hxs
    have hcs := cutB_size x ⟨#[45]⟩
    have hpe := rgPB_eq x
    generalize cutB x ⟨#[45]⟩ = cu at *
    obtain ⟨c1, c2, two⟩ := cu
    dsimp only at hcut hcs hpe
    have s1 : c1.size ≤ 1048576 := by omega
    have s2 : c2.size ≤ 1048576 := by omega
    have hno1 := fun hb => optTo_no hO hx (hpe.trans hb)
    have hyes1 := fun (r : Rg) hb => optTo_yes (b := r) hO hx (hpe.trans hb)
    clear h hx hxs hcs hO hpe hsz
    cases two
    · rw [cond_false] at hno1 hyes1
      clear s2
      cases ha : atoiO c1 with
      | none =>
        have q1 := atoi_bad ha s1
        have hno := hno1 (both2_none1 ha)
        have q2 := q1
        repeat (first | refine gG ?_ | refine zN1 (fun hlen => ?_) | refine zN2 (fun hlen => ?_) | refine zAp (fun _ => ?_))
        refine zIx k hk' ?_
        repeat (first | refine gG ?_ | refine zN1 (fun hlen => ?_) | refine zN2 (fun hlen => ?_) | refine zAp (fun _ => ?_))
        refine zEl1 hat ?_
        repeat (first | refine gG ?_ | refine zN1 (fun hlen => ?_) | refine zN2 (fun hlen => ?_) | refine zAp (fun _ => ?_))
        refine zCall (hcut) ?_
        rintro _ rfl
        repeat (first | refine gG ?_ | refine zN1 (fun hlen => ?_) | refine zN2 (fun hlen => ?_) | refine zAp (fun _ => ?_))
        refine zCall (q1) ?_
        rintro _ ⟨x1, t1, p1, rfl⟩
        repeat (first | refine gG ?_ | refine zN1 (fun hlen => ?_) | refine zN2 (fun hlen => ?_) | refine zAp (fun _ => ?_))
        refine zCall (q2) ?_
        rintro _ ⟨x2, t2, p2, rfl⟩
        repeat (first | refine gG ?_ | refine zN1 (fun hlen => ?_) | refine zN2 (fun hlen => ?_) | refine zAp (fun _ => ?_))
        refine zEr1 ?_
        repeat (first | refine gG ?_ | refine zN1 (fun hlen => ?_) | refine zN2 (fun hlen => ?_) | refine zAp (fun _ => ?_))
        first | refine zR (ts := [rgRow [], .lit (.int .i64 3)]) ?_ | refine zQ (ts := [rgRow [], .lit (.int .i64 3)]) ?_
        rw [hno]
        rfl
      | some a =>
        have q1 := atoi_af ha s1
        have hyes := hyes1 (a, a) (by rw [ha]; rfl)
        have q2 := q1
        repeat (first | refine gG ?_ | refine zN1 (fun hlen => ?_) | refine zN2 (fun hlen => ?_) | refine zAp (fun _ => ?_))
        refine zIx k hk' ?_
        repeat (first | refine gG ?_ | refine zN1 (fun hlen => ?_) | refine zN2 (fun hlen => ?_) | refine zAp (fun _ => ?_))
        refine zEl1 hat ?_
        repeat (first | refine gG ?_ | refine zN1 (fun hlen => ?_) | refine zN2 (fun hlen => ?_) | refine zAp (fun _ => ?_))
        refine zCall (hcut) ?_
        rintro _ rfl
        repeat (first | refine gG ?_ | refine zN1 (fun hlen => ?_) | refine zN2 (fun hlen => ?_) | refine zAp (fun _ => ?_))
        refine zCall (q1) ?_
        rintro _ rfl
        repeat (first | refine gG ?_ | refine zN1 (fun hlen => ?_) | refine zN2 (fun hlen => ?_) | refine zAp (fun _ => ?_))
        refine zCall (q2) ?_
        rintro _ rfl
        repeat (first | refine gG ?_ | refine zN1 (fun hlen => ?_) | refine zN2 (fun hlen => ?_) | refine zAp (fun _ => ?_))
        refine zEr0 ?_
        repeat (first | refine gG ?_ | refine zN1 (fun hlen => ?_) | refine zN2 (fun hlen => ?_) | refine zAp (fun _ => ?_))
        refine zEr0 ?_
        repeat (first | refine gG ?_ | refine zN1 (fun hlen => ?_) | refine zN2 (fun hlen => ?_) | refine zAp (fun _ => ?_))
        exact ⟨(k + 1, _, acc ++ [(a, a)]), ⟨hk', by simp only [List.length_append, List.length_singleton]; omega, hyes⟩, by simp only; omega, x_wkd 1 ⟨rfl, rfl, trivial⟩ (by dsimp only; simp only [List.length_append, List.flatMap_append]; rfl) (by repeat (first | exact ag_refl | refine ag_upd rfl ?_ | refine ag_at rfl rfl ?_))⟩
    · rw [cond_true] at hno1 hyes1
      have hno0 := hno1
      have hyes0 := fun a b => hyes1 (a, b)
      cases ha : atoiO c1 with
      | none =>
        have q1 := atoi_bad ha s1
        have hno := hno0 (both2_none1 ha)
        cases hb : atoiO c2 with
        | none =>
          have q2 := atoi_bad hb s2
          repeat (first | refine gG ?_ | refine zN1 (fun hlen => ?_) | refine zN2 (fun hlen => ?_) | refine zAp (fun _ => ?_))
          refine zIx k hk' ?_
          repeat (first | refine gG ?_ | refine zN1 (fun hlen => ?_) | refine zN2 (fun hlen => ?_) | refine zAp (fun _ => ?_))
          refine zEl1 hat ?_
          repeat (first | refine gG ?_ | refine zN1 (fun hlen => ?_) | refine zN2 (fun hlen => ?_) | refine zAp (fun _ => ?_))
          refine zCall (hcut) ?_
          rintro _ rfl
          repeat (first | refine gG ?_ | refine zN1 (fun hlen => ?_) | refine zN2 (fun hlen => ?_) | refine zAp (fun _ => ?_))
          refine zCall (q1) ?_
          rintro _ ⟨x1, t1, p1, rfl⟩
          repeat (first | refine gG ?_ | refine zN1 (fun hlen => ?_) | refine zN2 (fun hlen => ?_) | refine zAp (fun _ => ?_))
          refine zCall (q2) ?_
          rintro _ ⟨x2, t2, p2, rfl⟩
          repeat (first | refine gG ?_ | refine zN1 (fun hlen => ?_) | refine zN2 (fun hlen => ?_) | refine zAp (fun _ => ?_))
          refine zEr1 ?_
          repeat (first | refine gG ?_ | refine zN1 (fun hlen => ?_) | refine zN2 (fun hlen => ?_) | refine zAp (fun _ => ?_))
          first | refine zR (ts := [rgRow [], .lit (.int .i64 3)]) ?_ | refine zQ (ts := [rgRow [], .lit (.int .i64 3)]) ?_
          rw [hno]
          rfl
        | some b =>
          have q2 := atoi_af hb s2
          repeat (first | refine gG ?_ | refine zN1 (fun hlen => ?_) | refine zN2 (fun hlen => ?_) | refine zAp (fun _ => ?_))
          refine zIx k hk' ?_
          repeat (first | refine gG ?_ | refine zN1 (fun hlen => ?_) | refine zN2 (fun hlen => ?_) | refine zAp (fun _ => ?_))
          refine zEl1 hat ?_
          repeat (first | refine gG ?_ | refine zN1 (fun hlen => ?_) | refine zN2 (fun hlen => ?_) | refine zAp (fun _ => ?_))
          refine zCall (hcut) ?_
          rintro _ rfl
          repeat (first | refine gG ?_ | refine zN1 (fun hlen => ?_) | refine zN2 (fun hlen => ?_) | refine zAp (fun _ => ?_))
          refine zCall (q1) ?_
          rintro _ ⟨x1, t1, p1, rfl⟩
          repeat (first | refine gG ?_ | refine zN1 (fun hlen => ?_) | refine zN2 (fun hlen => ?_) | refine zAp (fun _ => ?_))
          refine zCall (q2) ?_
          rintro _ rfl
          repeat (first | refine gG ?_ | refine zN1 (fun hlen => ?_) | refine zN2 (fun hlen => ?_) | refine zAp (fun _ => ?_))
          refine zEr1 ?_
          repeat (first | refine gG ?_ | refine zN1 (fun hlen => ?_) | refine zN2 (fun hlen => ?_) | refine zAp (fun _ => ?_))
          first | refine zR (ts := [rgRow [], .lit (.int .i64 3)]) ?_ | refine zQ (ts := [rgRow [], .lit (.int .i64 3)]) ?_
          rw [hno]
          rfl
      | some a =>
        have q1 := atoi_af ha s1
        cases hb : atoiO c2 with
        | none =>
          have q2 := atoi_bad hb s2
          have hno := hno0 (both2_none2 hb)
          repeat (first | refine gG ?_ | refine zN1 (fun hlen => ?_) | refine zN2 (fun hlen => ?_) | refine zAp (fun _ => ?_))
          refine zIx k hk' ?_
          repeat (first | refine gG ?_ | refine zN1 (fun hlen => ?_) | refine zN2 (fun hlen => ?_) | refine zAp (fun _ => ?_))
          refine zEl1 hat ?_
          repeat (first | refine gG ?_ | refine zN1 (fun hlen => ?_) | refine zN2 (fun hlen => ?_) | refine zAp (fun _ => ?_))
          refine zCall (hcut) ?_
          rintro _ rfl
          repeat (first | refine gG ?_ | refine zN1 (fun hlen => ?_) | refine zN2 (fun hlen => ?_) | refine zAp (fun _ => ?_))
          refine zCall (q1) ?_
          rintro _ rfl
          repeat (first | refine gG ?_ | refine zN1 (fun hlen => ?_) | refine zN2 (fun hlen => ?_) | refine zAp (fun _ => ?_))
          refine zCall (q2) ?_
          rintro _ ⟨x2, t2, p2, rfl⟩
          repeat (first | refine gG ?_ | refine zN1 (fun hlen => ?_) | refine zN2 (fun hlen => ?_) | refine zAp (fun _ => ?_))
          refine zEr0 ?_
          repeat (first | refine gG ?_ | refine zN1 (fun hlen => ?_) | refine zN2 (fun hlen => ?_) | refine zAp (fun _ => ?_))
          refine zEr1 ?_
          repeat (first | refine gG ?_ | refine zN1 (fun hlen => ?_) | refine zN2 (fun hlen => ?_) | refine zAp (fun _ => ?_))
          first | refine zR (ts := [rgRow [], .lit (.int .i64 3)]) ?_ | refine zQ (ts := [rgRow [], .lit (.int .i64 3)]) ?_
          rw [hno]
          rfl
        | some b =>
          have q2 := atoi_af hb s2
          have hyes := hyes0 a b (by rw [ha, hb]; rfl)
          repeat (first | refine gG ?_ | refine zN1 (fun hlen => ?_) | refine zN2 (fun hlen => ?_) | refine zAp (fun _ => ?_))
          refine zIx k hk' ?_
          repeat (first | refine gG ?_ | refine zN1 (fun hlen => ?_) | refine zN2 (fun hlen => ?_) | refine zAp (fun _ => ?_))
          refine zEl1 hat ?_
          repeat (first | refine gG ?_ | refine zN1 (fun hlen => ?_) | refine zN2 (fun hlen => ?_) | refine zAp (fun _ => ?_))
          refine zCall (hcut) ?_
          rintro _ rfl
          repeat (first | refine gG ?_ | refine zN1 (fun hlen => ?_) | refine zN2 (fun hlen => ?_) | refine zAp (fun _ => ?_))
          refine zCall (q1) ?_
          rintro _ rfl
          repeat (first | refine gG ?_ | refine zN1 (fun hlen => ?_) | refine zN2 (fun hlen => ?_) | refine zAp (fun _ => ?_))
          refine zCall (q2) ?_
          rintro _ rfl
          repeat (first | refine gG ?_ | refine zN1 (fun hlen => ?_) | refine zN2 (fun hlen => ?_) | refine zAp (fun _ => ?_))
          refine zEr0 ?_
          repeat (first | refine gG ?_ | refine zN1 (fun hlen => ?_) | refine zN2 (fun hlen => ?_) | refine zAp (fun _ => ?_))
          refine zEr0 ?_
          repeat (first | refine gG ?_ | refine zN1 (fun hlen => ?_) | refine zN2 (fun hlen => ?_) | refine zAp (fun _ => ?_))
          exact ⟨(k + 1, _, acc ++ [(a, b)]), ⟨hk', by simp only [List.length_append, List.length_singleton]; omega, hyes⟩, by simp only; omega, x_wkd 1 ⟨rfl, rfl, trivial⟩ (by dsimp only; simp only [List.length_append, List.flatMap_append]; rfl) (by repeat (first | exact ag_refl | refine ag_upd rfl ?_ | refine ag_at rfl rfl ?_))⟩
  have hk' : k = L.length := by have : ¬ k < L.length := by simpa using h
                                omega
  subst hk'
  have hP := optTo_end hO
  rw [hP]
  clear h hk hO hP
  have htx := vText_af acc
  unfold rdV
  dsimp only
  refine x_fz 4 rfl rfl rfl rfl ?_
  refine x_drop 0 rfl ?_
  generalize vtV acc = tv at *
  obtain ⟨tt, te⟩ := tv
  dsimp only at htx ⊢
  cases d1 : decide (te = 0)
  · rw [Bool.false_and, cond_false]
    repeat (first | refine gG ?_ | refine zN1 (fun hlen => ?_) | refine zN2 (fun hlen => ?_) | refine zAp (fun _ => ?_))
    refine zCall (htx) ?_
    rintro _ rfl
    repeat (first | refine gG ?_ | refine zN1 (fun hlen => ?_) | refine zN2 (fun hlen => ?_) | refine zAp (fun _ => ?_))
    first | refine zR (ts := [rgRow [], .lit (.int .i64 3)]) ?_ | refine zQ (ts := [rgRow [], .lit (.int .i64 3)]) ?_
    rfl
  cases d2 : decide (tt = s)
  · rw [Bool.and_false, cond_false]
    repeat (first | refine gG ?_ | refine zN1 (fun hlen => ?_) | refine zN2 (fun hlen => ?_) | refine zAp (fun _ => ?_))
    refine zCall (htx) ?_
    rintro _ rfl
    repeat (first | refine gG ?_ | refine zN1 (fun hlen => ?_) | refine zN2 (fun hlen => ?_) | refine zAp (fun _ => ?_))
    first | refine zR (ts := [rgRow [], .lit (.int .i64 3)]) ?_ | refine zQ (ts := [rgRow [], .lit (.int .i64 3)]) ?_
    rfl
  · rw [Bool.and_self, cond_true]
    repeat (first | refine gG ?_ | refine zN1 (fun hlen => ?_) | refine zN2 (fun hlen => ?_) | refine zAp (fun _ => ?_))
    refine zCall (htx) ?_
    rintro _ rfl
    repeat (first | refine gG ?_ | refine zN1 (fun hlen => ?_) | refine zN2 (fun hlen => ?_) | refine zAp (fun _ => ?_))
    first | refine zR ?_ | refine zQ ?_
    rfl
theorem rgQB_eq {x : ByteArray} {m1 m2 : ByteArray} (h1 : (splS x ⟨#[45]⟩)[0]? = some m1) (h2 : (splS x ⟨#[45]⟩)[(splS x ⟨#[45]⟩).length - 1]? = some m2) : rgQB x = bif decide (2 < ((splS x ⟨#[45]⟩).length : Int)) then none else both2 (atoiO m1) (atoiO m2) := by
  unfold rgQB rgQ
  have hd := splS_data x ⟨#[45]⟩
  rw [show ((⟨#[45]⟩ : ByteArray).data.toList) = [45] from rfl] at hd
  rw [← hd, List.length_map, atoiO_eq, atoiO_eq]
  generalize splS x ⟨#[45]⟩ = M at *
  have e1 : (M.map (·.data.toList)).headD [] = m1.data.toList := by
    cases M with
    | nil => cases h1
    | cons y M => simp at h1; subst h1; rfl
  have e2 : (M.map (·.data.toList)).getLastD [] = m2.data.toList := by
    rw [List.getLastD_eq_getLast?, List.getLast?_eq_getElem?, List.length_map, List.getElem?_map, h2]
    rfl
  rw [e1, e2]
set_option maxRecDepth 100000 in
set_option maxHeartbeats 8000000 in
theorem vOf_af (s : ByteArray) (hs : s.size < 1048576) : AF Tryd.prog 17 [.lit (.string s)] (· = resT (rdV s (setP rgQ s.data.toList))) := by
  rw [setP_B]
  by_cases e0 : s = ⟨#[]⟩
  · subst e0
    rw [if_pos rfl]
    unfold rdV
    dsimp only
    rw [vtV_nil]
    have dd : decide ((⟨#[]⟩ : ByteArray) = ⟨#[]⟩) = true := decide_eq_true rfl
    rw [dd]
    refine af_enter tok Tryd.func17 Tryd.ntmps17 Tryd.results17 rfl (by kernel_rfl) rfl rfl fun F hX => ?_
    repeat (first | refine gG ?_ | refine zN1 (fun hlen => ?_) | refine zN2 (fun hlen => ?_) | refine zSub ?_ | refine zAp (fun _ => ?_))
    first | refine zR (ts := [rgRow [], .lit (.int .i64 0)]) ?_ | refine zQ (ts := [rgRow [], .lit (.int .i64 0)]) ?_
    rfl
  rw [if_neg e0]
  have de : decide (s = ⟨#[]⟩) = false := decide_eq_false e0
  have hsp := split_af s ⟨#[44]⟩ (by omega) (by decide)
  have hsz : ∀ x ∈ splS s ⟨#[44]⟩, x.size < 1048576 := fun x hx => by have := splS_size hx; omega
  have hln := splS_le s ⟨#[44]⟩ (by decide)
  change AF _ _ _ (· = resT (rdV s (optAll rgQB (splS s ⟨#[44]⟩))))
  generalize splS s ⟨#[44]⟩ = L at *
  clear e0
  refine af_enter tok Tryd.func17 Tryd.ntmps17 Tryd.results17 rfl (by kernel_rfl) rfl rfl fun F hX => ?_
  repeat (first | refine gG ?_ | refine zN1 (fun hlen => ?_) | refine zN2 (fun hlen => ?_) | refine zSub ?_ | refine zAp (fun _ => ?_))
  refine zCall (hsp) ?_
  rintro _ rfl
  clear hsp
  repeat (first | refine gG ?_ | refine zN1 (fun hlen => ?_) | refine zN2 (fun hlen => ?_) | refine zSub ?_ | refine zAp (fun _ => ?_))
  refine x_own 4 72 2 rfl rfl rfl rfl rfl ?_
  refine x_loop [2, 3, 4, 6, 7, 8, 9, 10, 11, 19, 20, 21, 22, 23, 24, 25, 26, 27, 28, 29, 30, 31, 32, 33, 34, 35, 36, 37, 38, 39, 40, 41, 42, 43, 44, 45, 46, 47, 48, 49, 50, 51, 52, 53, 54, 55, 56, 57, 58, 59] (fun y : Nat × Value × List Rg => [(19, .c (.lit (.int .i64 (y.1 : Nat)))), (4, .own 0 y.2.1)]) (fun y => [.row y.2.1 72 2 y.2.2.length (y.2.2.flatMap rgTs)]) (fun y => y.1 ≤ L.length ∧ y.2.2.length ≤ y.1 ∧ OptTo rgQB L y.1 y.2.2) (fun y => L.length - y.1) (0, .slice none 0 0, []) ⟨Nat.zero_le _, Nat.le_refl _, optTo_zero _ _⟩ ⟨rfl, rfl, trivial⟩ rfl ?_
  rintro ⟨k, v, acc⟩ ⟨hk, hal, hO⟩
  dsimp only at hk hal hO ⊢
  repeat (first | refine gG ?_ | refine zN1 (fun hlen => ?_) | refine zN2 (fun hlen => ?_) | refine zSub ?_ | refine zAp (fun _ => ?_))
  refine x_cond rfl (fun h => ?_) (fun h => ?_)
  · have hk' : k < L.length := by simpa using h
    obtain ⟨x, hx⟩ := nth hk'
    have hxs := hsz x (List.mem_of_getElem? hx)
    have hat := str_at1 hx
    have hcut := split_af x ⟨#[45]⟩ (by omega) (by decide)
    have hml := splS_le x ⟨#[45]⟩ (by decide)
    have hmn := splS_len x ⟨#[45]⟩ (by decide)
    have hm0 : 0 < (splS x ⟨#[45]⟩).length := by omega
    have hm1 : (splS x ⟨#[45]⟩).length - 1 < (splS x ⟨#[45]⟩).length := by omega
    clear hmn
    obtain ⟨m1, h1⟩ := nth hm0
    obtain ⟨m2, h2⟩ := nth hm1
    have hpe := rgQB_eq h1 h2
    have s1 : m1.size ≤ 1048576 := by have := splS_size (List.mem_of_getElem? h1); omega
    have s2 : m2.size ≤ 1048576 := by have := splS_size (List.mem_of_getElem? h2); omega
    have hatA := str_at1 h1
    have hatB := str_at1 h2
    have hno1 := fun hb => optTo_no hO hx (hpe.trans hb)
    have hyes1 := fun (r : Rg) hb => optTo_yes (b := r) hO hx (hpe.trans hb)
    clear h hx h1 h2 hO hpe hsz
    generalize splS x ⟨#[45]⟩ = M at *
    cases dl : decide (2 < (M.length : Int))
    · rw [dl, cond_false] at hno1 hyes1
      have hno0 := hno1
      have hyes0 := fun a b => hyes1 (a, b)
      cases ha : atoiO m1 with
      | none =>
        have q1 := atoi_bad ha s1
        have hno := hno0 (both2_none1 ha)
        cases hb : atoiO m2 with
        | none =>
          have q2 := atoi_bad hb s2
          repeat (first | refine gG ?_ | refine zN1 (fun hlen => ?_) | refine zN2 (fun hlen => ?_) | refine zSub ?_ | refine zAp (fun _ => ?_))
          refine zIx k hk' ?_
          repeat (first | refine gG ?_ | refine zN1 (fun hlen => ?_) | refine zN2 (fun hlen => ?_) | refine zSub ?_ | refine zAp (fun _ => ?_))
          refine zEl1 hat ?_
          repeat (first | refine gG ?_ | refine zN1 (fun hlen => ?_) | refine zN2 (fun hlen => ?_) | refine zSub ?_ | refine zAp (fun _ => ?_))
          refine zCall (hcut) ?_
          rintro _ rfl
          repeat (first | refine gG ?_ | refine zN1 (fun hlen => ?_) | refine zN2 (fun hlen => ?_) | refine zSub ?_ | refine zAp (fun _ => ?_))
          refine zIx 0 hm0 ?_
          repeat (first | refine gG ?_ | refine zN1 (fun hlen => ?_) | refine zN2 (fun hlen => ?_) | refine zSub ?_ | refine zAp (fun _ => ?_))
          refine zEl1 hatA ?_
          repeat (first | refine gG ?_ | refine zN1 (fun hlen => ?_) | refine zN2 (fun hlen => ?_) | refine zSub ?_ | refine zAp (fun _ => ?_))
          refine zCall (q1) ?_
          rintro _ ⟨x1, t1, p1, rfl⟩
          repeat (first | refine gG ?_ | refine zN1 (fun hlen => ?_) | refine zN2 (fun hlen => ?_) | refine zSub ?_ | refine zAp (fun _ => ?_))
          refine zIx (M.length - 1) hm1 ?_ (hz := by omega)
          repeat (first | refine gG ?_ | refine zN1 (fun hlen => ?_) | refine zN2 (fun hlen => ?_) | refine zSub ?_ | refine zAp (fun _ => ?_))
          refine zEl1 hatB ?_
          repeat (first | refine gG ?_ | refine zN1 (fun hlen => ?_) | refine zN2 (fun hlen => ?_) | refine zSub ?_ | refine zAp (fun _ => ?_))
          refine zCall (q2) ?_
          rintro _ ⟨x2, t2, p2, rfl⟩
          repeat (first | refine gG ?_ | refine zN1 (fun hlen => ?_) | refine zN2 (fun hlen => ?_) | refine zSub ?_ | refine zAp (fun _ => ?_))
          refine zEr1 ?_
          repeat (first | refine gG ?_ | refine zN1 (fun hlen => ?_) | refine zN2 (fun hlen => ?_) | refine zSub ?_ | refine zAp (fun _ => ?_))
          first | refine zR (ts := [rgRow [], .lit (.int .i64 3)]) ?_ | refine zQ (ts := [rgRow [], .lit (.int .i64 3)]) ?_
          rw [hno]
          rfl
        | some b =>
          have q2 := atoi_af hb s2
          repeat (first | refine gG ?_ | refine zN1 (fun hlen => ?_) | refine zN2 (fun hlen => ?_) | refine zSub ?_ | refine zAp (fun _ => ?_))
          refine zIx k hk' ?_
          repeat (first | refine gG ?_ | refine zN1 (fun hlen => ?_) | refine zN2 (fun hlen => ?_) | refine zSub ?_ | refine zAp (fun _ => ?_))
          refine zEl1 hat ?_
          repeat (first | refine gG ?_ | refine zN1 (fun hlen => ?_) | refine zN2 (fun hlen => ?_) | refine zSub ?_ | refine zAp (fun _ => ?_))
          refine zCall (hcut) ?_
          rintro _ rfl
          repeat (first | refine gG ?_ | refine zN1 (fun hlen => ?_) | refine zN2 (fun hlen => ?_) | refine zSub ?_ | refine zAp (fun _ => ?_))
          refine zIx 0 hm0 ?_
          repeat (first | refine gG ?_ | refine zN1 (fun hlen => ?_) | refine zN2 (fun hlen => ?_) | refine zSub ?_ | refine zAp (fun _ => ?_))
          refine zEl1 hatA ?_
          repeat (first | refine gG ?_ | refine zN1 (fun hlen => ?_) | refine zN2 (fun hlen => ?_) | refine zSub ?_ | refine zAp (fun _ => ?_))
          refine zCall (q1) ?_
          rintro _ ⟨x1, t1, p1, rfl⟩
          repeat (first | refine gG ?_ | refine zN1 (fun hlen => ?_) | refine zN2 (fun hlen => ?_) | refine zSub ?_ | refine zAp (fun _ => ?_))
          refine zIx (M.length - 1) hm1 ?_ (hz := by omega)
          repeat (first | refine gG ?_ | refine zN1 (fun hlen => ?_) | refine zN2 (fun hlen => ?_) | refine zSub ?_ | refine zAp (fun _ => ?_))
          refine zEl1 hatB ?_
          repeat (first | refine gG ?_ | refine zN1 (fun hlen => ?_) | refine zN2 (fun hlen => ?_) | refine zSub ?_ | refine zAp (fun _ => ?_))
          refine zCall (q2) ?_
          rintro _ rfl
          repeat (first | refine gG ?_ | refine zN1 (fun hlen => ?_) | refine zN2 (fun hlen => ?_) | refine zSub ?_ | refine zAp (fun _ => ?_))
          refine zEr1 ?_
          repeat (first | refine gG ?_ | refine zN1 (fun hlen => ?_) | refine zN2 (fun hlen => ?_) | refine zSub ?_ | refine zAp (fun _ => ?_))
          first | refine zR (ts := [rgRow [], .lit (.int .i64 3)]) ?_ | refine zQ (ts := [rgRow [], .lit (.int .i64 3)]) ?_
          rw [hno]
          rfl
      | some a =>
        have q1 := atoi_af ha s1
        cases hb : atoiO m2 with
        | none =>
          have q2 := atoi_bad hb s2
          have hno := hno0 (both2_none2 hb)
          repeat (first | refine gG ?_ | refine zN1 (fun hlen => ?_) | refine zN2 (fun hlen => ?_) | refine zSub ?_ | refine zAp (fun _ => ?_))
          refine zIx k hk' ?_
          repeat (first | refine gG ?_ | refine zN1 (fun hlen => ?_) | refine zN2 (fun hlen => ?_) | refine zSub ?_ | refine zAp (fun _ => ?_))
          refine zEl1 hat ?_
          repeat (first | refine gG ?_ | refine zN1 (fun hlen => ?_) | refine zN2 (fun hlen => ?_) | refine zSub ?_ | refine zAp (fun _ => ?_))
          refine zCall (hcut) ?_
          rintro _ rfl
          repeat (first | refine gG ?_ | refine zN1 (fun hlen => ?_) | refine zN2 (fun hlen => ?_) | refine zSub ?_ | refine zAp (fun _ => ?_))
          refine zIx 0 hm0 ?_
          repeat (first | refine gG ?_ | refine zN1 (fun hlen => ?_) | refine zN2 (fun hlen => ?_) | refine zSub ?_ | refine zAp (fun _ => ?_))
          refine zEl1 hatA ?_
          repeat (first | refine gG ?_ | refine zN1 (fun hlen => ?_) | refine zN2 (fun hlen => ?_) | refine zSub ?_ | refine zAp (fun _ => ?_))
          refine zCall (q1) ?_
          rintro _ rfl
          repeat (first | refine gG ?_ | refine zN1 (fun hlen => ?_) | refine zN2 (fun hlen => ?_) | refine zSub ?_ | refine zAp (fun _ => ?_))
          refine zIx (M.length - 1) hm1 ?_ (hz := by omega)
          repeat (first | refine gG ?_ | refine zN1 (fun hlen => ?_) | refine zN2 (fun hlen => ?_) | refine zSub ?_ | refine zAp (fun _ => ?_))
          refine zEl1 hatB ?_
          repeat (first | refine gG ?_ | refine zN1 (fun hlen => ?_) | refine zN2 (fun hlen => ?_) | refine zSub ?_ | refine zAp (fun _ => ?_))
          refine zCall (q2) ?_
          rintro _ ⟨x2, t2, p2, rfl⟩
          repeat (first | refine gG ?_ | refine zN1 (fun hlen => ?_) | refine zN2 (fun hlen => ?_) | refine zSub ?_ | refine zAp (fun _ => ?_))
          refine zEr0 ?_
          repeat (first | refine gG ?_ | refine zN1 (fun hlen => ?_) | refine zN2 (fun hlen => ?_) | refine zSub ?_ | refine zAp (fun _ => ?_))
          refine zEr1 ?_
          repeat (first | refine gG ?_ | refine zN1 (fun hlen => ?_) | refine zN2 (fun hlen => ?_) | refine zSub ?_ | refine zAp (fun _ => ?_))
          first | refine zR (ts := [rgRow [], .lit (.int .i64 3)]) ?_ | refine zQ (ts := [rgRow [], .lit (.int .i64 3)]) ?_
          rw [hno]
          rfl
        | some b =>
          have q2 := atoi_af hb s2
          have hyes := hyes0 a b (by rw [ha, hb]; rfl)
          repeat (first | refine gG ?_ | refine zN1 (fun hlen => ?_) | refine zN2 (fun hlen => ?_) | refine zSub ?_ | refine zAp (fun _ => ?_))
          refine zIx k hk' ?_
          repeat (first | refine gG ?_ | refine zN1 (fun hlen => ?_) | refine zN2 (fun hlen => ?_) | refine zSub ?_ | refine zAp (fun _ => ?_))
          refine zEl1 hat ?_
          repeat (first | refine gG ?_ | refine zN1 (fun hlen => ?_) | refine zN2 (fun hlen => ?_) | refine zSub ?_ | refine zAp (fun _ => ?_))
          refine zCall (hcut) ?_
          rintro _ rfl
          repeat (first | refine gG ?_ | refine zN1 (fun hlen => ?_) | refine zN2 (fun hlen => ?_) | refine zSub ?_ | refine zAp (fun _ => ?_))
          refine zIx 0 hm0 ?_
          repeat (first | refine gG ?_ | refine zN1 (fun hlen => ?_) | refine zN2 (fun hlen => ?_) | refine zSub ?_ | refine zAp (fun _ => ?_))
          refine zEl1 hatA ?_
          repeat (first | refine gG ?_ | refine zN1 (fun hlen => ?_) | refine zN2 (fun hlen => ?_) | refine zSub ?_ | refine zAp (fun _ => ?_))
          refine zCall (q1) ?_
          rintro _ rfl
          repeat (first | refine gG ?_ | refine zN1 (fun hlen => ?_) | refine zN2 (fun hlen => ?_) | refine zSub ?_ | refine zAp (fun _ => ?_))
          refine zIx (M.length - 1) hm1 ?_ (hz := by omega)
          repeat (first | refine gG ?_ | refine zN1 (fun hlen => ?_) | refine zN2 (fun hlen => ?_) | refine zSub ?_ | refine zAp (fun _ => ?_))
          refine zEl1 hatB ?_
          repeat (first | refine gG ?_ | refine zN1 (fun hlen => ?_) | refine zN2 (fun hlen => ?_) | refine zSub ?_ | refine zAp (fun _ => ?_))
          refine zCall (q2) ?_
          rintro _ rfl
          repeat (first | refine gG ?_ | refine zN1 (fun hlen => ?_) | refine zN2 (fun hlen => ?_) | refine zSub ?_ | refine zAp (fun _ => ?_))
          refine zEr0 ?_
          repeat (first | refine gG ?_ | refine zN1 (fun hlen => ?_) | refine zN2 (fun hlen => ?_) | refine zSub ?_ | refine zAp (fun _ => ?_))
          refine zEr0 ?_
          repeat (first | refine gG ?_ | refine zN1 (fun hlen => ?_) | refine zN2 (fun hlen => ?_) | refine zSub ?_ | refine zAp (fun _ => ?_))
          refine zBda ?_
          repeat (first | refine gG ?_ | refine zN1 (fun hlen => ?_) | refine zN2 (fun hlen => ?_) | refine zSub ?_ | refine zAp (fun _ => ?_))
          exact ⟨(k + 1, _, acc ++ [(a, b)]), ⟨hk', by simp only [List.length_append, List.length_singleton]; omega, hyes⟩, by simp only; omega, x_wkd 1 ⟨rfl, rfl, trivial⟩ (by dsimp only; simp only [List.length_append, List.flatMap_append]; rfl) (by repeat (first | exact ag_refl | refine ag_upd rfl ?_ | refine ag_at rfl rfl ?_))⟩
    · rw [dl, cond_true] at hno1
      have hno := hno1 rfl
      clear hyes1 hno1
      cases ha : atoiO m1 with
      | none =>
        have q1 := atoi_bad ha s1
        cases hb : atoiO m2 with
        | none =>
          have q2 := atoi_bad hb s2
          repeat (first | refine gG ?_ | refine zN1 (fun hlen => ?_) | refine zN2 (fun hlen => ?_) | refine zSub ?_ | refine zAp (fun _ => ?_))
          refine zIx k hk' ?_
          repeat (first | refine gG ?_ | refine zN1 (fun hlen => ?_) | refine zN2 (fun hlen => ?_) | refine zSub ?_ | refine zAp (fun _ => ?_))
          refine zEl1 hat ?_
          repeat (first | refine gG ?_ | refine zN1 (fun hlen => ?_) | refine zN2 (fun hlen => ?_) | refine zSub ?_ | refine zAp (fun _ => ?_))
          refine zCall (hcut) ?_
          rintro _ rfl
          repeat (first | refine gG ?_ | refine zN1 (fun hlen => ?_) | refine zN2 (fun hlen => ?_) | refine zSub ?_ | refine zAp (fun _ => ?_))
          refine zIx 0 hm0 ?_
          repeat (first | refine gG ?_ | refine zN1 (fun hlen => ?_) | refine zN2 (fun hlen => ?_) | refine zSub ?_ | refine zAp (fun _ => ?_))
          refine zEl1 hatA ?_
          repeat (first | refine gG ?_ | refine zN1 (fun hlen => ?_) | refine zN2 (fun hlen => ?_) | refine zSub ?_ | refine zAp (fun _ => ?_))
          refine zCall (q1) ?_
          rintro _ ⟨x1, t1, p1, rfl⟩
          repeat (first | refine gG ?_ | refine zN1 (fun hlen => ?_) | refine zN2 (fun hlen => ?_) | refine zSub ?_ | refine zAp (fun _ => ?_))
          refine zIx (M.length - 1) hm1 ?_ (hz := by omega)
          repeat (first | refine gG ?_ | refine zN1 (fun hlen => ?_) | refine zN2 (fun hlen => ?_) | refine zSub ?_ | refine zAp (fun _ => ?_))
          refine zEl1 hatB ?_
          repeat (first | refine gG ?_ | refine zN1 (fun hlen => ?_) | refine zN2 (fun hlen => ?_) | refine zSub ?_ | refine zAp (fun _ => ?_))
          refine zCall (q2) ?_
          rintro _ ⟨x2, t2, p2, rfl⟩
          repeat (first | refine gG ?_ | refine zN1 (fun hlen => ?_) | refine zN2 (fun hlen => ?_) | refine zSub ?_ | refine zAp (fun _ => ?_))
          first | refine zR (ts := [rgRow [], .lit (.int .i64 3)]) ?_ | refine zQ (ts := [rgRow [], .lit (.int .i64 3)]) ?_
          rw [hno]
          rfl
        | some b =>
          have q2 := atoi_af hb s2
          repeat (first | refine gG ?_ | refine zN1 (fun hlen => ?_) | refine zN2 (fun hlen => ?_) | refine zSub ?_ | refine zAp (fun _ => ?_))
          refine zIx k hk' ?_
          repeat (first | refine gG ?_ | refine zN1 (fun hlen => ?_) | refine zN2 (fun hlen => ?_) | refine zSub ?_ | refine zAp (fun _ => ?_))
          refine zEl1 hat ?_
          repeat (first | refine gG ?_ | refine zN1 (fun hlen => ?_) | refine zN2 (fun hlen => ?_) | refine zSub ?_ | refine zAp (fun _ => ?_))
          refine zCall (hcut) ?_
          rintro _ rfl
          repeat (first | refine gG ?_ | refine zN1 (fun hlen => ?_) | refine zN2 (fun hlen => ?_) | refine zSub ?_ | refine zAp (fun _ => ?_))
          refine zIx 0 hm0 ?_
          repeat (first | refine gG ?_ | refine zN1 (fun hlen => ?_) | refine zN2 (fun hlen => ?_) | refine zSub ?_ | refine zAp (fun _ => ?_))
          refine zEl1 hatA ?_
          repeat (first | refine gG ?_ | refine zN1 (fun hlen => ?_) | refine zN2 (fun hlen => ?_) | refine zSub ?_ | refine zAp (fun _ => ?_))
          refine zCall (q1) ?_
          rintro _ ⟨x1, t1, p1, rfl⟩
          repeat (first | refine gG ?_ | refine zN1 (fun hlen => ?_) | refine zN2 (fun hlen => ?_) | refine zSub ?_ | refine zAp (fun _ => ?_))
          refine zIx (M.length - 1) hm1 ?_ (hz := by omega)
          repeat (first | refine gG ?_ | refine zN1 (fun hlen => ?_) | refine zN2 (fun hlen => ?_) | refine zSub ?_ | refine zAp (fun _ => ?_))
          refine zEl1 hatB ?_
          repeat (first | refine gG ?_ | refine zN1 (fun hlen => ?_) | refine zN2 (fun hlen => ?_) | refine zSub ?_ | refine zAp (fun _ => ?_))
          refine zCall (q2) ?_
          rintro _ rfl
          repeat (first | refine gG ?_ | refine zN1 (fun hlen => ?_) | refine zN2 (fun hlen => ?_) | refine zSub ?_ | refine zAp (fun _ => ?_))
          first | refine zR (ts := [rgRow [], .lit (.int .i64 3)]) ?_ | refine zQ (ts := [rgRow [], .lit (.int .i64 3)]) ?_
          rw [hno]
          rfl
      | some a =>
        have q1 := atoi_af ha s1
        cases hb : atoiO m2 with
        | none =>
          have q2 := atoi_bad hb s2
          repeat (first | refine gG ?_ | refine zN1 (fun hlen => ?_) | refine zN2 (fun hlen => ?_) | refine zSub ?_ | refine zAp (fun _ => ?_))
          refine zIx k hk' ?_
          repeat (first | refine gG ?_ | refine zN1 (fun hlen => ?_) | refine zN2 (fun hlen => ?_) | refine zSub ?_ | refine zAp (fun _ => ?_))
          refine zEl1 hat ?_
          repeat (first | refine gG ?_ | refine zN1 (fun hlen => ?_) | refine zN2 (fun hlen => ?_) | refine zSub ?_ | refine zAp (fun _ => ?_))
          refine zCall (hcut) ?_
          rintro _ rfl
          repeat (first | refine gG ?_ | refine zN1 (fun hlen => ?_) | refine zN2 (fun hlen => ?_) | refine zSub ?_ | refine zAp (fun _ => ?_))
          refine zIx 0 hm0 ?_
          repeat (first | refine gG ?_ | refine zN1 (fun hlen => ?_) | refine zN2 (fun hlen => ?_) | refine zSub ?_ | refine zAp (fun _ => ?_))
          refine zEl1 hatA ?_
          repeat (first | refine gG ?_ | refine zN1 (fun hlen => ?_) | refine zN2 (fun hlen => ?_) | refine zSub ?_ | refine zAp (fun _ => ?_))
          refine zCall (q1) ?_
          rintro _ rfl
          repeat (first | refine gG ?_ | refine zN1 (fun hlen => ?_) | refine zN2 (fun hlen => ?_) | refine zSub ?_ | refine zAp (fun _ => ?_))
          refine zIx (M.length - 1) hm1 ?_ (hz := by omega)
          repeat (first | refine gG ?_ | refine zN1 (fun hlen => ?_) | refine zN2 (fun hlen => ?_) | refine zSub ?_ | refine zAp (fun _ => ?_))
          refine zEl1 hatB ?_
          repeat (first | refine gG ?_ | refine zN1 (fun hlen => ?_) | refine zN2 (fun hlen => ?_) | refine zSub ?_ | refine zAp (fun _ => ?_))
          refine zCall (q2) ?_
          rintro _ ⟨x2, t2, p2, rfl⟩
          repeat (first | refine gG ?_ | refine zN1 (fun hlen => ?_) | refine zN2 (fun hlen => ?_) | refine zSub ?_ | refine zAp (fun _ => ?_))
          first | refine zR (ts := [rgRow [], .lit (.int .i64 3)]) ?_ | refine zQ (ts := [rgRow [], .lit (.int .i64 3)]) ?_
          rw [hno]
          rfl
        | some b =>
          have q2 := atoi_af hb s2
          repeat (first | refine gG ?_ | refine zN1 (fun hlen => ?_) | refine zN2 (fun hlen => ?_) | refine zSub ?_ | refine zAp (fun _ => ?_))
          refine zIx k hk' ?_
          repeat (first | refine gG ?_ | refine zN1 (fun hlen => ?_) | refine zN2 (fun hlen => ?_) | refine zSub ?_ | refine zAp (fun _ => ?_))
          refine zEl1 hat ?_
          repeat (first | refine gG ?_ | refine zN1 (fun hlen => ?_) | refine zN2 (fun hlen => ?_) | refine zSub ?_ | refine zAp (fun _ => ?_))
          refine zCall (hcut) ?_
          rintro _ rfl
          repeat (first | refine gG ?_ | refine zN1 (fun hlen => ?_) | refine zN2 (fun hlen => ?_) | refine zSub ?_ | refine zAp (fun _ => ?_))
          refine zIx 0 hm0 ?_
          repeat (first | refine gG ?_ | refine zN1 (fun hlen => ?_) | refine zN2 (fun hlen => ?_) | refine zSub ?_ | refine zAp (fun _ => ?_))
          refine zEl1 hatA ?_
          repeat (first | refine gG ?_ | refine zN1 (fun hlen => ?_) | refine zN2 (fun hlen => ?_) | refine zSub ?_ | refine zAp (fun _ => ?_))
          refine zCall (q1) ?_
          rintro _ rfl
          repeat (first | refine gG ?_ | refine zN1 (fun hlen => ?_) | refine zN2 (fun hlen => ?_) | refine zSub ?_ | refine zAp (fun _ => ?_))
          refine zIx (M.length - 1) hm1 ?_ (hz := by omega)
          repeat (first | refine gG ?_ | refine zN1 (fun hlen => ?_) | refine zN2 (fun hlen => ?_) | refine zSub ?_ | refine zAp (fun _ => ?_))
          refine zEl1 hatB ?_
          repeat (first | refine gG ?_ | refine zN1 (fun hlen => ?_) | refine zN2 (fun hlen => ?_) | refine zSub ?_ | refine zAp (fun _ => ?_))
          refine zCall (q2) ?_
          rintro _ rfl
          repeat (first | refine gG ?_ | refine zN1 (fun hlen => ?_) | refine zN2 (fun hlen => ?_) | refine zSub ?_ | refine zAp (fun _ => ?_))
          first | refine zR (ts := [rgRow [], .lit (.int .i64 3)]) ?_ | refine zQ (ts := [rgRow [], .lit (.int .i64 3)]) ?_
          rw [hno]
          rfl
  have hk' : k = L.length := by have : ¬ k < L.length := by simpa using h
                                omega
  subst hk'
  have hP := optTo_end hO
  rw [hP]
  clear h hk hO hP
  have htx := refText_af acc
  unfold rdV
  dsimp only
  refine x_fz 4 rfl rfl rfl rfl ?_
  refine x_drop 0 rfl ?_
  generalize vtV acc = tv at *
  obtain ⟨tt, te⟩ := tv
  dsimp only at htx ⊢
  cases d1 : decide (te = 0)
  · rw [Bool.false_and, cond_false]
    repeat (first | refine gG ?_ | refine zN1 (fun hlen => ?_) | refine zN2 (fun hlen => ?_) | refine zSub ?_ | refine zAp (fun _ => ?_))
    refine zCall (htx) ?_
    rintro _ rfl
    repeat (first | refine gG ?_ | refine zN1 (fun hlen => ?_) | refine zN2 (fun hlen => ?_) | refine zSub ?_ | refine zAp (fun _ => ?_))
    first | refine zR (ts := [rgRow [], .lit (.int .i64 3)]) ?_ | refine zQ (ts := [rgRow [], .lit (.int .i64 3)]) ?_
    rfl
  cases d2 : decide (tt = s)
  · rw [Bool.and_false, cond_false]
    repeat (first | refine gG ?_ | refine zN1 (fun hlen => ?_) | refine zN2 (fun hlen => ?_) | refine zSub ?_ | refine zAp (fun _ => ?_))
    refine zCall (htx) ?_
    rintro _ rfl
    repeat (first | refine gG ?_ | refine zN1 (fun hlen => ?_) | refine zN2 (fun hlen => ?_) | refine zSub ?_ | refine zAp (fun _ => ?_))
    first | refine zR (ts := [rgRow [], .lit (.int .i64 3)]) ?_ | refine zQ (ts := [rgRow [], .lit (.int .i64 3)]) ?_
    rfl
  · rw [Bool.and_self, cond_true]
    repeat (first | refine gG ?_ | refine zN1 (fun hlen => ?_) | refine zN2 (fun hlen => ?_) | refine zSub ?_ | refine zAp (fun _ => ?_))
    refine zCall (htx) ?_
    rintro _ rfl
    repeat (first | refine gG ?_ | refine zN1 (fun hlen => ?_) | refine zN2 (fun hlen => ?_) | refine zSub ?_ | refine zAp (fun _ => ?_))
    first | refine zR ?_ | refine zQ ?_
    rfl
end Go.Proofs.YtadlmkgeplnemaaDoor
namespace Go.Proofs.YtadlmkgeplnemaaDoor
open Go.RowKit
theorem optAll_len {α β : Type} {f : α → Option β} : ∀ {l : List α} {o : List β}, optAll f l = some o → o.length = l.length
  | [], o, h => by rw [optAll] at h; cases h; rfl
  | a :: l, o, h => by
    rw [optAll] at h
    cases hf : f a with
    | none => rw [hf] at h; cases h
    | some b =>
      rw [hf] at h
      cases hl : optAll f l with
      | none => rw [hl] at h; cases h
      | some o2 =>
        rw [hl] at h
        cases h
        rw [List.length_cons, List.length_cons, optAll_len hl]
theorem rdV_len (s : ByteArray) (f : List UInt8 → Option Rg) : (rdV s (setP f s.data.toList)).1.length ≤ s.size + 1 := by
  rw [setP_B]
  have h1 := splS_le s ⟨#[44]⟩ (by decide)
  unfold rdV
  split
  · simp
  · rename_i out ho
    have h2 : out.length ≤ s.size + 1 := by
      split at ho
      · cases ho; simp
      · have := optAll_len ho
        omega
    cases decide ((vtV out).2 = 0) && decide ((vtV out).1 = s)
    · simp
    · exact h2
theorem vt_13 : vtV [(1, 3)] = (⟨#[49, 45, 51]⟩, 0) := by
  have h1 : Lib.itoa 1 = [49] := by rw [itoa_nat (by decide)]; exact Lib.decDigits_one (by decide)
  have h3 : Lib.itoa 3 = [51] := by rw [itoa_nat (by decide)]; exact Lib.decDigits_one (by decide)
  have hf : faultL [(1, 3)] = 0 := by decide
  unfold vtV vtL itL
  rw [hf]
  simp only [List.map_cons, List.map_nil, Lib.join_one, h1, h3]
  rfl
set_option maxRecDepth 100000 in
set_option maxHeartbeats 4000000 in
theorem versionTexts_law (l : List Rg) (s : ByteArray) (hl : l.length ≤ 1048576) (hs : s.size < 1048576) : AF Tryd.prog 4 [rgRow l, .lit (.string s)] (· = .lit (.bool true)) := by
  have h0 := vText_af [(1, 3)]
  rw [vt_13] at h0
  have h1 := vText_af l
  have h2 := pairs_af l hl
  have h3 := refText_af l
  have h4 := vRead_af s hs
  have h5 := vOf_af s hs
  have hn := rdV_len s rgP
  rw [← rdV_same s] at h5
  generalize rdV s (setP rgP s.data.toList) = R at *
  generalize vtV l = tv at *
  obtain ⟨tt, te⟩ := tv
  obtain ⟨x, e⟩ := R
  have h6 := same_af x (by have : x.length ≤ s.size + 1 := hn; omega)
  clear hn hs hl
  dsimp only [resT] at h0 h1 h3 h4 h5
  have d0 : decide ((⟨#[49, 45, 51]⟩ : ByteArray) = ⟨#[49, 45, 51]⟩) = true := decide_eq_true rfl
  have d1 : decide (tt = tt) = true := decide_eq_true rfl
  have d2 : decide (te = te) = true := decide_eq_true rfl
  have d3 : decide (e = e) = true := decide_eq_true rfl
  refine af_enter tok Tryd.func4 Tryd.ntmps4 Tryd.results4 rfl (by kernel_rfl) rfl rfl fun F hX => ?_
  repeat (first | refine gG ?_)
  refine zCall (h0) ?_
  rintro _ rfl
  clear h0
  repeat (first | refine gG ?_)
  refine zCall (h1) ?_
  rintro _ rfl
  clear h1
  repeat (first | refine gG ?_)
  refine zCall (h2) ?_
  rintro _ rfl
  clear h2
  repeat (first | refine gG ?_)
  refine zCall (h3) ?_
  rintro _ rfl
  clear h3
  repeat (first | refine gG ?_)
  refine zCall (h4) ?_
  rintro _ rfl
  clear h4
  repeat (first | refine gG ?_)
  refine zCall (h5) ?_
  rintro _ rfl
  clear h5
  repeat (first | refine gG ?_)
  refine zCall (h6) ?_
  rintro _ rfl
  repeat (first | refine gG ?_)
  first | refine zR ?_ | refine zQ ?_
  rw [d3]
  rfl
end Go.Proofs.YtadlmkgeplnemaaDoor
namespace Go.Proofs.YtadlmkgeplnemaaDoor
open Go.ChangeShapes Go.WideShapes Go.ChangeAt Go.RowKit Go.Deep
section
variable {H : Type} {enc : TypeId × Value → H} {P : Program} {w : World} {base : Nat} {spare : Nat → Bool} {held : Bool}
theorem bulk_one (d : DataW H) : 1 ≤ Rows.uptoBulk d := by
  cases d with
  | lit l => cases l <;> simp [Rows.uptoBulk]
  | _ => simp [Rows.uptoBulk]
end
end Go.Proofs.YtadlmkgeplnemaaDoor
namespace Go.Proofs.YtadlmkgeplnemaaDoor
open Go.ChangeShapes Go.WideShapes Go.ChangeAt Go.RowKit
theorem own : ownKnob Tryd.prog.godebug = none := by kernel_rfl
theorem laidOut : laidOutB Tryd.prog = true := by kernel_rfl
section
variable {H : Type} {enc : TypeId × Value → H}
theorem trodAll_below {P : Program} (hl : laidOutB P = true) {W W' : World} (hb : Below W.heap.size W W') (ts : List TypeId) : ∀ (vs : List Value) (ds : List (DataW H)) (ps : List MemPlace),
    (ts.all fun t => P.readableRec t && decide (t < P.types.size)) = true → DataW.TrodAll enc P W 0 (fun _ => true) true ts vs ds ps → (∀ x ∈ ps, x.block < W.heap.size) →
    DataW.TrodAll enc P W' 0 (fun b => decide (b < W.heap.size)) true ts vs ds ps := by
  induction ts with
  | nil =>
    intro vs ds ps _ h _
    obtain ⟨rfl, rfl, rfl⟩ := trodAll_nil h
    rfl
  | cons t ts ih =>
    intro vs ds ps hr h hlt
    obtain ⟨v, vs', d, ds', p, q, rfl, rfl, rfl, h0, h1⟩ := trodAll_cons h
    simp only [List.all_cons, Bool.and_eq_true, decide_eq_true_eq] at hr
    refine ⟨p, q, Below.trod hl hr.1.1 hr.1.2 h0 hb fun x hx => hlt x (List.mem_append_left _ hx), ?_, rfl⟩
    exact ih vs' ds' q hr.2 h1 fun x hx => hlt x (List.mem_append_right _ hx)
theorem law_post {f : Func} {s : ChangeSpec} {W W' : World} {args : Array Value} {ds gs : List (DataW H)} {before : List MemPlace}
    (hW : DataW.Whole enc Tryd.prog f.params.toList s.vars false W args.toList ds gs before) (hv : s.vars = []) (hrt : f.resultTypes = #[4])
    (hr : (f.params.toList.all fun t => Tryd.prog.readableRec t && decide (t < Tryd.prog.types.size)) = true)
    (hres : (s.fn H (ds ++ gs)).results = [.lit (.bool true)]) (hargs : (s.fn H (ds ++ gs)).args = ds) (hvars : (s.fn H (ds ++ gs)).vars = []) (hb : Below W.heap.size W W') :
    s.post enc Tryd.prog f false true false false W args (.bool true) W' := by
  have hlt : ∀ p ∈ before, p.block < W.heap.size := fun p hp => hW.lt p hp
  have hW' := hW
  obtain ⟨p, q, hA, hV, rfl, _, _⟩ := hW'
  rw [hv] at hV
  obtain ⟨rfl, rfl⟩ := trodVars_none hV
  rw [List.append_nil] at hlt
  refine ⟨ds, [], _, [], p, [], hW, ?_, ?_, ?_, hb.frame _ |> World.keptBut_mono (fun x hx => ⟨hx, ?_⟩), fun h => by cases h⟩
  · rw [hrt, hres]
    exact trodAll_mk1 (shut_bool Tryd.underlying4 true)
  · rw [hargs]
    exact trodAll_below laidOut hb _ _ _ _ hr hA hlt
  · rw [hvars, hv]
    rfl
  · rw [List.append_nil] at hx
    exact .inr (.inl hx)
end
end Go.Proofs.YtadlmkgeplnemaaDoor
namespace Go.Proofs.YtadlmkgeplnemaaDoor
open Go.ChangeShapes Go.WideShapes Go.ChangeAt Go.RowKit Go.Deep
/-- all memory of a world -/
def memOf (w : World) : Mm := frz (fun _ => none) 0 w
theorem memOf_ok (w : World) : MemOk (memOf w) w := frz_ok (fun p v h => by cases h) 0
theorem memOf_at {w : World} {p : Addr} {v : Value} (h : w.cell? p = some v) (h1 : v.oneCell' = true) : memOf w p = some v := frz_new rfl (Nat.zero_le _) h h1
section
variable {H : Type} {enc : TypeId × Value → H} {P : Program} {w : World} {base : Nat} {spare : Nat → Bool} {held : Bool}
def Opens (enc : TypeId × Value → H) (P : Program) (w : World) (base : Nat) (spare : Nat → Bool) (held : Bool) (t : TypeId) {α : Type} (f : α → List T) (μ : α → Nat) (fuel : Nat) : Prop :=
  ∀ (cs : List Value) (x : DataW H × List MemPlace), DataW.trod enc P w base spare held fuel t cs = some x → ∃ a, RTs (memOf w) (f a) cs ∧ OneAll cs ∧ μ a ≤ Rows.uptoBulk x.1
theorem sum_le {α : Type} (μ : α → Nat) : ∀ (l : List α) (ds : List (DataW H)), l.length = ds.length → (∀ (i : Nat) (a : α) (d : DataW H), l[i]? = some a → ds[i]? = some d → μ a ≤ Rows.uptoBulk d) → (l.map μ).sum ≤ Rows.uptoBulkAll ds
  | [], [], _, _ => by simp [Rows.uptoBulkAll]
  | a :: l, d :: ds, hl, h => by
    have h1 := h 0 a d rfl rfl
    have h2 := sum_le μ l ds (by simpa using hl) fun i a d ha hd => h (i + 1) a d (by simpa using ha) (by simpa using hd)
    simp only [List.map_cons, List.sum_cons, Rows.uptoBulkAll]
    omega
  | [], _ :: _, hl, _ => by simp at hl
  | _ :: _, [], hl, _ => by simp at hl
theorem snoc_ind {α : Type} {p : List α → Prop} (h0 : p []) (h1 : ∀ l x, p l → p (l ++ [x])) (l : List α) : p l := by
  have : ∀ n (l : List α), l.length = n → p l := by
    intro n
    induction n with
    | zero => intro l hl; rw [List.eq_nil_of_length_eq_zero hl]; exact h0
    | succ n ih =>
      intro l hl
      have hne : l ≠ [] := fun e => by rw [e] at hl; cases hl
      rw [← List.dropLast_concat_getLast hne]
      exact h1 _ _ (ih _ (by simp [hl]))
  exact this l.length l rfl
theorem rows_of {α : Type} (f : α → List T) (sz : Nat) (hf : ∀ a, (f a).length = sz) {a : Addr} : ∀ (l : List α) (C : Nat → List Value), (∀ (i : Nat) (x : α), l[i]? = some x → RTs (memOf w) (f x) (C i) ∧ OneAll (C i) ∧ ∀ j u, (C i)[j]? = some u → w.cell? (a.add (i * sz + j)) = some u) →
    ∃ xs : List Value, xs.length = l.length * sz ∧ At (memOf w) a xs ∧ RTs (memOf w) (l.flatMap f) xs := by
  intro l
  induction l using snoc_ind with
  | h0 => exact fun _ _ => ⟨[], by simp, fun j x h => by simp at h, by simp [RTs]⟩
  | h1 l x ih =>
    intro C h
    obtain ⟨xs, h1, h2, h3⟩ := ih C fun i y hy => h i y (by rw [List.getElem?_append_left (List.getElem?_eq_some_iff.1 hy).1]; exact hy)
    obtain ⟨g1, g2, g3⟩ := h l.length x (by simp)
    have hcl := g1.len
    rw [hf] at hcl
    refine ⟨xs ++ C l.length, by simp [h1, hcl, Nat.add_mul], fun j u hu => ?_, ?_⟩
    · rw [List.getElem?_append] at hu
      split at hu
      · exact h2 j u hu
      · have := g3 _ u hu
        rw [show l.length * sz + (j - xs.length) = j by omega] at this
        exact memOf_at this (g2 u (List.mem_of_getElem? hu))
    · rw [List.flatMap_append]
      refine h3.app ?_
      simpa using g1
theorem opens_slice {α : Type} [Inhabited α] {t e : TypeId} (f : α → List T) (μ : α → Nat) (sz : Nat) (hsz : 0 < sz) (hf : ∀ a, (f a).length = sz) {fuel : Nat} (ht : P.underlying t = some (.slice e)) (hC : P.cellsOf e = sz)
    (hel : ∀ n, n < fuel → Opens enc P w base spare held e f μ n) : Opens enc P w base spare held t (fun l : List α => [.row l.length sz (l.flatMap f)]) (fun l => (l.map μ).sum + 1) fuel := by
  intro cs x h
  rcases DataW.trod_slice ht h with ⟨rfl, rfl⟩ | ⟨a, len, cap, elems, rest, n, hn, rfl, rfl, hb, hl, hm, hlen, hi, _, _⟩
  · refine ⟨[], ?_, fun u hu => by simp at hu; subst hu; rfl, by simp [Rows.uptoBulk]⟩
    simp only [RTs]
    exact ⟨_, _, rfl, rt_nil hsz (by simp only [RT]), rfl⟩
  · rw [hC] at hi
    have hv : ∀ i, i < len → ∃ p : α × List Value, (p.2.length = sz ∧ ∀ j u, p.2[j]? = some u → w.cell? (a.add (i * sz + j)) = some u) ∧ RTs (memOf w) (f p.1) p.2 ∧ OneAll p.2 ∧ ∀ y, elems[i]? = some y → μ p.1 ≤ Rows.uptoBulk y.1 := by
      intro i hil
      have hk := hi i hil
      rw [List.getElem?_eq_getElem (by omega)] at hk
      obtain ⟨cs', h1, h2⟩ := Option.bind_eq_some_iff.1 hk
      obtain ⟨el, h3, h4, h5⟩ := hel n (by omega) _ _ h2
      obtain ⟨_, hlen', hcell⟩ := World.cells?_some h1
      refine ⟨(el, cs'), ⟨hlen', fun j u hu => ?_⟩, h3, h4, fun y hy => ?_⟩
      · have hj : j < sz := by rw [← hlen']; exact (List.getElem?_eq_some_iff.1 hu).1
        rw [← hu, ← hcell j hj, add_add']
      · rw [List.getElem?_eq_getElem (by omega)] at hy
        injection hy with hy
        rw [← hy]; exact h5
    obtain ⟨G, hG⟩ := choose_lt (α := α × List Value) hv
    obtain ⟨xs, g1, g2, g3⟩ := rows_of (w := w) (a := a) f sz hf ((List.range len).map fun i => (G i).1) (fun i => (G i).2) (fun i x hx => by
      have hil : i < len := by have := (List.getElem?_eq_some_iff.1 hx).1; simpa using this
      simp [hil] at hx
      obtain ⟨k1, k2, k3, _⟩ := hG i hil
      rw [← hx]
      exact ⟨k2, k3, k1.2⟩)
    refine ⟨(List.range len).map fun i => (G i).1, ?_, fun u hu => by simp at hu; subst hu; rfl, ?_⟩
    · simp only [RTs]
      refine ⟨_, _, rfl, ?_, rfl⟩
      simp only [RT]
      exact ⟨some a, cap, xs, by simp, by simpa using hl, by simp; omega, hsz, g1, fun _ => ⟨a, rfl, g2⟩, g3⟩
    · have := sum_le μ ((List.range len).map fun i => (G i).1) (elems.map (·.1)) (by simp [hlen]) (fun i y d hy hd => by
        have hil : i < len := by have := (List.getElem?_eq_some_iff.1 hy).1; simpa using this
        simp [hil] at hy
        rw [List.getElem?_map] at hd
        obtain ⟨z, hz, rfl⟩ := Option.map_eq_some_iff.1 hd
        rw [← hy]
        exact (hG i hil).2.2.2 z hz)
      simp only [Rows.uptoBulk]
      omega
theorem opens_int {t : TypeId} {k : IntKind} {fuel : Nat} (ht : P.underlying t = some (.int k)) : Opens enc P w base spare held t (fun i : Int => [.lit (.int k i)]) (fun _ => 1) fuel := by
  intro cs x h
  obtain ⟨i, rfl, rfl, _⟩ := DataW.trod_int ht h
  exact ⟨i, by simp [RTs, RT], fun u hu => by simp at hu; subst hu; rfl, bulk_one _⟩
end
/-- from a walk to the call: every law that takes trees and tells true -/
theorem law_call {P : Program} {f : FuncId} {ts : List T} {vs : List Value} {W : World} (h : AF P f ts (· = .lit (.bool true))) (hv : RTs (memOf W) ts vs) (hG : Glob W := by first | assumption | (intro x h; simp [globTab] at h)) : Calls P f vs.toArray W fun e W' => e = .returned (.bool true) ∧ Below W.heap.size W W' :=
  (h.2 (memOf W) W vs hG (memOf_ok W) hv).mono fun e w' ⟨v, r, M', he, hr, _, _, hrt, hb⟩ => by
    subst hr
    simp only [RT] at hrt
    rw [he, hrt]
    exact ⟨rfl, hb⟩
end Go.Proofs.YtadlmkgeplnemaaDoor
namespace Go.Proofs.YtadlmkgeplnemaaDoor
open Go.ChangeShapes Go.WideShapes Go.ChangeAt Go.RowKit Go.Deep
theorem listN2 {α : Type} {l : List α} (h : l.length = 2) : ∃ a b, l = [a, b] := match l, h with | [a, b], _ => ⟨a, b, rfl⟩
theorem rts_seg {M : Mm} {ts us : List T} {cs : List Value} {o c : Nat} (h : RTs M ts ((cs.drop o).take c)) (h' : RTs M us (cs.drop (o + c))) : RTs M (ts ++ us) (cs.drop o) := by
  have := h.app h'
  rwa [← List.drop_drop, List.take_append_drop] at this
theorem rts_end {M : Mm} {cs : List Value} {o : Nat} (h : cs.length = o) : RTs M [] (cs.drop o) := by rw [← h, List.drop_length]; simp [RTs]
theorem one_seg {cs : List Value} {o c : Nat} (h : OneAll ((cs.drop o).take c)) (h' : OneAll (cs.drop (o + c))) : OneAll (cs.drop o) := by
  have := h.app h'
  rwa [← List.drop_drop, List.take_append_drop] at this
theorem one_end {cs : List Value} {o : Nat} (h : cs.length = o) : OneAll (cs.drop o) := by rw [← h, List.drop_length]; intro x hx; simp at hx
section
variable {H : Type} {enc : TypeId × Value → H} {P : Program} {w : World} {base : Nat} {spare : Nat → Bool} {held : Bool}
theorem opens_strz {t : TypeId} {fuel : Nat} (ht : P.underlying t = some .string) : Opens enc P w base spare held t (fun s : ByteArray => [.lit (.string s)]) (fun s => s.size + 1) fuel := by
  intro cs x h
  obtain ⟨i, rfl, rfl, _⟩ := DataW.trod_string ht h
  exact ⟨i, by simp [RTs, RT], fun u hu => by simp at hu; subst hu; rfl, by simp [Rows.uptoBulk]⟩
end
end Go.Proofs.YtadlmkgeplnemaaDoor
namespace Go.Proofs.YtadlmkgeplnemaaDoor
open Go.ChangeShapes Go.WideShapes Go.ChangeAt Go.RowKit Go.Deep
theorem sumRg : ∀ l : List Rg, (l.map fun _ => 1).sum = l.length
  | [] => rfl
  | a :: l => by rw [List.map_cons, List.sum_cons, sumRg l, List.length_cons]; omega
section
variable {H : Type} {enc : TypeId × Value → H} {w : World} {base : Nat} {spare : Nat → Bool} {held : Bool}
theorem cn_Rg : Tryd.prog.cellsOf 36 = 2 := by kernel_rfl
theorem opensRg (fuel : Nat) : Opens enc Tryd.prog w base spare held 36 rgTs (fun _ => 1) fuel := by
  intro cs x h
  obtain ⟨ys, n, hn, rfl, hlen, hyl, hf⟩ := DataW.trod_struct Tryd.underlying36 h
  rw [cn_Rg] at hlen
  obtain ⟨y0, y1, rfl⟩ := listN2 hyl
  have f0 : DataW.trod enc Tryd.prog w base spare held n 3 ((cs.drop 0).take (Tryd.prog.cellsOf 3)) = some y0 := hf 0 _ rfl
  have f1 : DataW.trod enc Tryd.prog w base spare held n 3 ((cs.drop 1).take (Tryd.prog.cellsOf 3)) = some y1 := hf 1 _ rfl
  rw [show Tryd.prog.cellsOf 3 = 1 by kernel_rfl] at f0 f1
  obtain ⟨a0, r0, o0, m0⟩ := opens_int Tryd.underlying3 _ _ f0
  obtain ⟨a1, r1, o1, m1⟩ := opens_int Tryd.underlying3 _ _ f1
  refine ⟨(a0, a1), ?_, ?_, ?_⟩
  · have := rts_seg r0 (rts_seg r1 (rts_end hlen))
    simpa [rgTs] using this
  · have := one_seg o0 (one_seg o1 (one_end hlen))
    simpa using this
  · simp only [List.map_cons, List.map_nil, Rows.uptoBulk, Rows.uptoBulkAll] at m0 m1 ⊢
    omega
theorem opensRgl (fuel : Nat) : Opens enc Tryd.prog w base spare held 33 (fun l : List Rg => [rgRow l]) (fun l => l.length + 1) fuel := by
  have h := opens_slice (enc := enc) (P := Tryd.prog) (w := w) (base := base) (spare := spare) (held := held) (fuel := fuel) rgTs (fun _ => 1) 2 (by omega) rgTs_len Tryd.underlying33 cn_Rg (fun m _ => opensRg m)
  intro cs x hx
  obtain ⟨l, h1, h2, h3⟩ := h cs x hx
  dsimp only at h3
  rw [sumRg] at h3
  exact ⟨l, h1, h2, h3⟩
end
end Go.Proofs.YtadlmkgeplnemaaDoor
