/-
  Texts of this proof, part 7: Vaf Vac Vsh Vag Vah Vai.
-/
import Derived.Test.YtnkafjkcjpajgaaQVersionAlgebra6
import Derived.Laws.IdiomRangeMap
import Derived.Lib.AppendStr
import Derived.MapKept
import Derived.Shelf.SlLaysF0
import Derived.Shelf.SlSortCmp.NoneTotal
import Derived.Test.YtnkafjkcjpajgaaProg
namespace Go.Proofs.Ytnkafjkcjpajgaa
open Go.RowKit
theorem fault_step' {l : List Rg} {k : Nat} {r : Rg} (h : l[k]? = some r) (p : Int) : faultAt p (l.drop k) = bif rgOk r then (bif decide (r.1 ≤ p + 1) && decide (0 < p) then 21 else faultAt r.2 (l.drop (k + 1))) else 1 := by
  obtain ⟨h1, h2⟩ := List.getElem?_eq_some_iff.1 h
  rw [List.drop_eq_getElem_cons h1, faultAt, h2]
theorem rgOk_not (a b : Int) : rgOk (a, b) = (!decide (a < 1) && !decide (9999 < b) && !decide (b < a)) := by
  have e1 : decide (1 ≤ a) = !decide (a < 1) := by by_cases h : a < 1 <;> simp [h] <;> omega
  have e2 : decide (b ≤ 9999) = !decide (9999 < b) := by by_cases h : 9999 < b <;> simp [h] <;> omega
  have e3 : decide (a ≤ b) = !decide (b < a) := by by_cases h : b < a <;> simp [h] <;> omega
  show (decide (1 ≤ a) && decide (b ≤ 9999) && decide (a ≤ b)) = _
  rw [e1, e2, e3]
set_option maxRecDepth 100000 in
set_option maxHeartbeats 2000000 in
theorem fault_af (l : List Rg) : AF Try.prog 14 [rgRow l] (· = .lit (.int .i64 (faultL l))) := by
  have hfl : faultL l = bif decide (50 < ((l.length : Nat) : Int)) then 2 else faultAt (-1) l := by
    unfold faultL
    by_cases h : l.length ≤ 50
    · rw [decide_eq_true h, decide_eq_false (by omega)]; rfl
    · rw [decide_eq_false h, decide_eq_true (by omega)]; rfl
  rw [hfl]
  clear hfl
  refine af_enter tok Try.func14 Try.ntmps14 Try.results14 rfl (by kernel_rfl) rfl rfl fun F hX => ?_
  cases d1 : decide (50 < ((l.length : Nat) : Int))
  rotate_left
  · repeat (first | refine gG ?_ | refine zN1 (fun hlen => ?_) | refine zN2 (fun hlen => ?_) | refine zAl (fun _ => ?_))
    first | refine zR ?_ | refine zQ ?_
    rfl
  · rw [cond_false]
    repeat (first | refine gG ?_ | refine zN1 (fun hlen => ?_) | refine zN2 (fun hlen => ?_) | refine zAl (fun _ => ?_))
    refine x_loop [2, 3, 5, 11, 12, 13, 14, 15, 16, 17, 18, 19, 20, 21, 22, 23, 24, 25, 26, 27, 28, 29, 30, 31, 32, 33, 34, 35, 36, 37, 38, 39, 40, 41] (fun y : Nat × Int => [(11, .c (.lit (.int .i64 (y.1 : Nat)))), (3, .c (.lit (.int .i64 y.2)))]) (fun _ => []) (fun y => y.1 ≤ l.length ∧ faultAt y.2 (l.drop y.1) = faultAt (-1) l ∧ -1 ≤ y.2 ∧ y.2 ≤ 9999) (fun y => l.length - y.1) (0, -1) ⟨Nat.zero_le _, rfl, Int.le_refl _, by decide⟩ ⟨rfl, rfl, trivial⟩ rfl ?_
    rintro ⟨k, p⟩ ⟨hk, hf, hp1, hp2⟩
    dsimp only at hk hf hp1 hp2 ⊢
    repeat (first | refine gG ?_ | refine zN1 (fun hlen => ?_) | refine zN2 (fun hlen => ?_) | refine zAl (fun _ => ?_))
    refine x_cond rfl (fun h => ?_) (fun h => ?_)
    · have hk' : k < l.length := by simpa using h
      obtain ⟨r, hr⟩ := nth hk'
      have hat := Rg.at hr
      have hst := fault_step' hr p
      rw [hf] at hst
      clear h hf hr
      obtain ⟨a, b⟩ := r
      rw [rgOk_not] at hst
      cases d2 : decide (a < 1)
      rotate_left
      · rw [d2] at hst
        repeat (first | refine gG ?_ | refine zN1 (fun hlen => ?_) | refine zN2 (fun hlen => ?_) | refine zAl (fun _ => ?_))
        refine zIx (k) (hk') ?_
        repeat (first | refine gG ?_ | refine zN1 (fun hlen => ?_) | refine zN2 (fun hlen => ?_) | refine zAl (fun _ => ?_))
        refine zEl (hat) (rgTs_len _) ?_
        repeat (first | refine zIxb 0 ?_ | refine zIxb 1 ?_ | refine gG ?_ | refine zN1 (fun hlen => ?_) | refine zN2 (fun hlen => ?_) | refine zAl (fun _ => ?_) | refine zBx (fun _ => ?_) | refine zAp (fun _ => ?_))
        first | refine zR ?_ | refine zQ ?_
        rw [hst]
        rfl
      cases d3 : decide (9999 < b)
      rotate_left
      · rw [d2, d3] at hst
        repeat (first | refine gG ?_ | refine zN1 (fun hlen => ?_) | refine zN2 (fun hlen => ?_) | refine zAl (fun _ => ?_))
        refine zIx (k) (hk') ?_
        repeat (first | refine gG ?_ | refine zN1 (fun hlen => ?_) | refine zN2 (fun hlen => ?_) | refine zAl (fun _ => ?_))
        refine zEl (hat) (rgTs_len _) ?_
        repeat (first | refine zIxb 0 ?_ | refine zIxb 1 ?_ | refine gG ?_ | refine zN1 (fun hlen => ?_) | refine zN2 (fun hlen => ?_) | refine zAl (fun _ => ?_) | refine zBx (fun _ => ?_) | refine zAp (fun _ => ?_))
        first | refine zR ?_ | refine zQ ?_
        rw [hst]
        rfl
      cases d4 : decide (b < a)
      rotate_left
      · rw [d2, d3, d4] at hst
        repeat (first | refine gG ?_ | refine zN1 (fun hlen => ?_) | refine zN2 (fun hlen => ?_) | refine zAl (fun _ => ?_))
        refine zIx (k) (hk') ?_
        repeat (first | refine gG ?_ | refine zN1 (fun hlen => ?_) | refine zN2 (fun hlen => ?_) | refine zAl (fun _ => ?_))
        refine zEl (hat) (rgTs_len _) ?_
        repeat (first | refine zIxb 0 ?_ | refine zIxb 1 ?_ | refine gG ?_ | refine zN1 (fun hlen => ?_) | refine zN2 (fun hlen => ?_) | refine zAl (fun _ => ?_) | refine zBx (fun _ => ?_) | refine zAp (fun _ => ?_))
        first | refine zR ?_ | refine zQ ?_
        rw [hst]
        rfl
      have hb1 : b ≤ 9999 := by have := of_decide_eq_false d3; omega
      have hb2 : 1 ≤ b := by have h1 := of_decide_eq_false d2; have h2 := of_decide_eq_false d4; omega
      rw [d2, d3, d4] at hst
      dsimp only at hst
      cases d5 : decide (a ≤ p + 1)
      · rw [d5] at hst
        repeat (first | refine gG ?_ | refine zN1 (fun hlen => ?_) | refine zN2 (fun hlen => ?_) | refine zAl (fun _ => ?_))
        refine zIx (k) (hk') ?_
        repeat (first | refine gG ?_ | refine zN1 (fun hlen => ?_) | refine zN2 (fun hlen => ?_) | refine zAl (fun _ => ?_))
        refine zEl (hat) (rgTs_len _) ?_
        repeat (first | refine zIxb 0 ?_ | refine zIxb 1 ?_ | refine gG ?_ | refine zN1 (fun hlen => ?_) | refine zN2 (fun hlen => ?_) | refine zAl (fun _ => ?_) | refine zBx (fun _ => ?_) | refine zAp (fun _ => ?_))
        refine lo_add rfl rfl (r := p + 1) (by rw [IntWalk.i64_in _ (by omega)]) ?_
        repeat (first | refine zIxb 0 ?_ | refine zIxb 1 ?_ | refine gG ?_ | refine zN1 (fun hlen => ?_) | refine zN2 (fun hlen => ?_) | refine zAl (fun _ => ?_) | refine zBx (fun _ => ?_) | refine zAp (fun _ => ?_))
        exact ⟨(k + 1, b), ⟨hk', hst.symm, by simp only; omega, hb1⟩, by simp only; omega, x_wkd 0 ⟨rfl, rfl, trivial⟩ rfl (by repeat (first | exact ag_refl | refine ag_upd rfl ?_ | refine ag_at rfl rfl ?_))⟩
      · cases d6 : decide (0 < p)
        · rw [d5, d6] at hst
          repeat (first | refine gG ?_ | refine zN1 (fun hlen => ?_) | refine zN2 (fun hlen => ?_) | refine zAl (fun _ => ?_))
          refine zIx (k) (hk') ?_
          repeat (first | refine gG ?_ | refine zN1 (fun hlen => ?_) | refine zN2 (fun hlen => ?_) | refine zAl (fun _ => ?_))
          refine zEl (hat) (rgTs_len _) ?_
          repeat (first | refine zIxb 0 ?_ | refine zIxb 1 ?_ | refine gG ?_ | refine zN1 (fun hlen => ?_) | refine zN2 (fun hlen => ?_) | refine zAl (fun _ => ?_) | refine zBx (fun _ => ?_) | refine zAp (fun _ => ?_))
          refine lo_add rfl rfl (r := p + 1) (by rw [IntWalk.i64_in _ (by omega)]) ?_
          repeat (first | refine zIxb 0 ?_ | refine zIxb 1 ?_ | refine gG ?_ | refine zN1 (fun hlen => ?_) | refine zN2 (fun hlen => ?_) | refine zAl (fun _ => ?_) | refine zBx (fun _ => ?_) | refine zAp (fun _ => ?_))
          exact ⟨(k + 1, b), ⟨hk', hst.symm, by simp only; omega, hb1⟩, by simp only; omega, x_wkd 0 ⟨rfl, rfl, trivial⟩ rfl (by repeat (first | exact ag_refl | refine ag_upd rfl ?_ | refine ag_at rfl rfl ?_))⟩
        · rw [d5, d6] at hst
          repeat (first | refine gG ?_ | refine zN1 (fun hlen => ?_) | refine zN2 (fun hlen => ?_) | refine zAl (fun _ => ?_))
          refine zIx (k) (hk') ?_
          repeat (first | refine gG ?_ | refine zN1 (fun hlen => ?_) | refine zN2 (fun hlen => ?_) | refine zAl (fun _ => ?_))
          refine zEl (hat) (rgTs_len _) ?_
          repeat (first | refine zIxb 0 ?_ | refine zIxb 1 ?_ | refine gG ?_ | refine zN1 (fun hlen => ?_) | refine zN2 (fun hlen => ?_) | refine zAl (fun _ => ?_) | refine zBx (fun _ => ?_) | refine zAp (fun _ => ?_))
          refine lo_add rfl rfl (r := p + 1) (by rw [IntWalk.i64_in _ (by omega)]) ?_
          repeat (first | refine zIxb 0 ?_ | refine zIxb 1 ?_ | refine gG ?_ | refine zN1 (fun hlen => ?_) | refine zN2 (fun hlen => ?_) | refine zAl (fun _ => ?_) | refine zBx (fun _ => ?_) | refine zAp (fun _ => ?_))
          first | refine zR ?_ | refine zQ ?_
          rw [hst]
          rfl
    · have hk' : k = l.length := by
        have : ¬ k < l.length := by simpa using h
        omega
      subst hk'
      rw [List.drop_length] at hf
      clear h
      repeat (first | refine gG ?_ | refine zN1 (fun hlen => ?_) | refine zN2 (fun hlen => ?_) | refine zAl (fun _ => ?_))
      first | refine zR ?_ | refine zQ ?_
      rw [← hf]
      rfl
def bT (b : Bool) : T := .lit (.bool b)
theorem rep_bools : ∀ n : Nat, (List.replicate n [T.lit (.bool false)]).flatten = (List.replicate n false).map bT
  | 0 => rfl
  | n + 1 => by rw [List.replicate_succ, List.flatten_cons, rep_bools n, List.replicate_succ, List.map_cons]; rfl
theorem set_bools (bl : List Bool) (i : Nat) : spl (bl.map bT) (i * 1) [.lit (.bool true)] = (bl.set i true).map bT := by
  rw [Nat.mul_one]
  show (bl.map bT).set i (bT true) = _
  rw [List.map_set]
def BitsOf (l : List Rg) (bl : List Bool) : Prop := bl.length = 10001 ∧ ∀ i : Nat, i < 10001 → bl[i]? = some (inB l i)
def BitsTo (l : List Rg) (r : Rg) (m : Nat) (bl : List Bool) : Prop := bl.length = 10001 ∧ ∀ i : Nat, i < 10001 → bl[i]? = some (inB l i || (decide (r.1 ≤ i) && decide (i < m)))
theorem bits_zero : BitsOf [] (List.replicate 10001 false) := by
  refine ⟨List.length_replicate, fun i hi => ?_⟩
  rw [List.getElem?_replicate, if_pos hi]
  rfl
theorem BitsTo.start {l : List Rg} {bl : List Bool} (h : BitsOf l bl) {r : Rg} {m : Nat} (hm : r.1 = m) : BitsTo l r m bl := by
  refine ⟨h.1, fun i hi => ?_⟩
  rw [h.2 i hi]
  have : (decide (r.1 ≤ (i : Int)) && decide (i < m)) = false := by
    by_cases h1 : i < m
    · rw [decide_eq_false (show ¬ r.1 ≤ (i : Int) by omega)]; rfl
    · rw [decide_eq_false h1, Bool.and_false]
  rw [this, Bool.or_false]
theorem BitsTo.set {l : List Rg} {bl : List Bool} {r : Rg} {m : Nat} (h : BitsTo l r m bl) (hm : r.1 ≤ m) (hb : m < 10001) : BitsTo l r (m + 1) (bl.set m true) := by
  refine ⟨by rw [List.length_set]; exact h.1, fun i hi => ?_⟩
  rw [List.getElem?_set]
  by_cases he : m = i
  · subst he
    rw [if_pos rfl, if_pos (by rw [h.1]; exact hb), decide_eq_true hm, decide_eq_true (by omega), Bool.and_true, Bool.or_true]
  · rw [if_neg he, h.2 i hi]
    have : decide (i < m + 1) = decide (i < m) := decide_eq_decide.2 (by omega)
    rw [this]
theorem BitsTo.done {l : List Rg} {bl : List Bool} {r : Rg} {m : Nat} (h : BitsTo l r m bl) (hm : (m : Int) = r.2 + 1) : BitsOf (l ++ [r]) bl := by
  refine ⟨h.1, fun i hi => ?_⟩
  rw [h.2 i hi]
  have : decide (i < m) = decide ((i : Int) ≤ r.2) := decide_eq_decide.2 (by omega)
  rw [this]
  simp [inB]
set_option maxRecDepth 100000 in
set_option maxHeartbeats 2000000 in
theorem bits_af (l : List Rg) (hl : ∀ r ∈ l, rgOk r = true) : AF Try.prog 42 [rgRow l] (fun t => ∃ bl : List Bool, t = .row 10001 1 (bl.map bT) ∧ BitsOf l bl) := by
  refine af_enter tok Try.func42 Try.ntmps42 Try.results42 rfl (by kernel_rfl) rfl rfl fun F hX => ?_
  repeat (first | refine gG ?_ | refine zN1 (fun hlen => ?_) | refine zN2 (fun hlen => ?_) | refine zAl (fun _ => ?_))
  refine zMk 10001 [.lit (.bool false)] (fun v0 => ?_)
  rw [rep_bools]
  have hz := bits_zero
  generalize List.replicate 10001 false = bl0 at *
  repeat (first | refine gG ?_ | refine zN1 (fun hlen => ?_) | refine zN2 (fun hlen => ?_) | refine zAl (fun _ => ?_))
  refine x_loop [5, 6, 10, 11, 12, 13, 14, 15, 16, 17, 18, 19, 20, 21, 22, 23, 24, 25] (fun y : Nat × List Bool => [(10, .c (.lit (.int .i64 (y.1 : Nat))))]) (fun y => [.row v0 4 1 10001 (y.2.map bT)]) (fun y => y.1 ≤ l.length ∧ BitsOf (l.take y.1) y.2) (fun y => l.length - y.1) (0, bl0) ⟨Nat.zero_le _, hz⟩ ⟨rfl, trivial⟩ rfl ?_
  clear hz
  rintro ⟨k, bl⟩ ⟨hk, hb⟩
  dsimp only at hk hb ⊢
  repeat (first | refine gG ?_ | refine zN1 (fun hlen => ?_) | refine zN2 (fun hlen => ?_) | refine zAl (fun _ => ?_))
  refine x_cond rfl (fun h => ?_) (fun h => ?_)
  · have hk' : k < l.length := by simpa using h
    obtain ⟨r, hr⟩ := nth hk'
    have hat := Rg.at hr
    have hro := rgOk_iff.1 (hl r (List.mem_of_getElem? hr))
    have hsn := takeR_snoc hr
    obtain ⟨a, b⟩ := r
    dsimp only at hro
    obtain ⟨a, rfl⟩ : ∃ n : Nat, a = n := ⟨a.toNat, by omega⟩
    have hs := BitsTo.start hb (r := ((a : Int), b)) (m := a) rfl
    clear h hr hb
    repeat (first | refine gG ?_ | refine zN1 (fun hlen => ?_) | refine zN2 (fun hlen => ?_) | refine zAl (fun _ => ?_))
    refine zIx (k) (hk') ?_
    repeat (first | refine gG ?_ | refine zN1 (fun hlen => ?_) | refine zN2 (fun hlen => ?_) | refine zAl (fun _ => ?_))
    refine zEl (hat) (rgTs_len _) ?_
    repeat (first | refine zIxb 0 ?_ | refine zIxb 1 ?_ | refine gG ?_ | refine zN1 (fun hlen => ?_) | refine zN2 (fun hlen => ?_) | refine zAl (fun _ => ?_) | refine zBx (fun _ => ?_) | refine zAp (fun _ => ?_))
    rename_i b5
    refine x_loop [6, 16, 17, 18, 19, 20, 21, 22, 23, 24] (fun y : Nat × List Bool => [(6, .c (.lit (.int .i64 (y.1 : Nat))))]) (fun y => [.row v0 4 1 10001 (y.2.map bT), .box b5 89 [.c (.lit (.int .i64 (a : Nat))), .c (.lit (.int .i64 b))]]) (fun y => a ≤ y.1 ∧ (y.1 : Int) ≤ b + 1 ∧ BitsTo (l.take k) ((a : Int), b) y.1 y.2) (fun y => (b + 1 - (y.1 : Int)).toNat) (a, bl) ⟨Nat.le_refl _, by simp only; omega, hs⟩ ⟨rfl, trivial⟩ rfl ?_
    clear hs
    rintro ⟨m, bm⟩ ⟨hm1, hm2, hm⟩
    dsimp only at hm1 hm2 hm ⊢
    cases d1 : decide ((m : Int) ≤ b)
    · have hme : (m : Int) = b + 1 := by have := of_decide_eq_false d1; omega
      have hd := hm.done hme
      rw [← hsn] at hd
      repeat (first | refine zIxb 0 ?_ | refine zIxb 1 ?_ | refine gG ?_ | refine zN1 (fun hlen => ?_) | refine zN2 (fun hlen => ?_) | refine zAl (fun _ => ?_) | refine zBx (fun _ => ?_) | refine zAp (fun _ => ?_))
      exact ⟨(k + 1, bm), ⟨hk', hd⟩, by simp only; omega, x_wkd 1 ⟨rfl, trivial⟩ rfl (by repeat (first | exact ag_refl | refine ag_upd rfl ?_ | refine ag_at rfl rfl ?_))⟩
    · have hmb : (m : Int) ≤ b := of_decide_eq_true d1
      have hlt : m < 10001 := by omega
      have hn := hm.set (by simp only; omega) hlt
      have hsp := set_bools bm m
      have hle : m * 1 + 1 ≤ (bm.map bT).length := by rw [List.length_map, hm.1]; omega
      clear hm
      repeat (first | refine zIxb 0 ?_ | refine zIxb 1 ?_ | refine gG ?_ | refine zN1 (fun hlen => ?_) | refine zN2 (fun hlen => ?_) | refine zAl (fun _ => ?_) | refine zBx (fun _ => ?_) | refine zAp (fun _ => ?_))
      refine zIxo m hlt ?_
      repeat (first | refine zIxb 0 ?_ | refine zIxb 1 ?_ | refine gG ?_ | refine zN1 (fun hlen => ?_) | refine zN2 (fun hlen => ?_) | refine zAl (fun _ => ?_) | refine zBx (fun _ => ?_) | refine zAp (fun _ => ?_))
      refine zSe (us := [.lit (.bool true)]) hsp hle ?_
      repeat (first | refine zIxb 0 ?_ | refine zIxb 1 ?_ | refine gG ?_ | refine zN1 (fun hlen => ?_) | refine zN2 (fun hlen => ?_) | refine zAl (fun _ => ?_) | refine zBx (fun _ => ?_) | refine zAp (fun _ => ?_))
      exact ⟨(m + 1, _), ⟨by simp only; omega, by simp only; omega, hn⟩, by simp only; omega, x_wkd 2 ⟨rfl, trivial⟩ rfl (by repeat (first | exact ag_refl | refine ag_upd rfl ?_ | refine ag_at rfl rfl ?_))⟩
  · have hk' : k = l.length := by
      have : ¬ k < l.length := by simpa using h
      omega
    subst hk'
    rw [List.take_length] at hb
    clear h
    repeat (first | refine gG ?_ | refine zN1 (fun hlen => ?_) | refine zN2 (fun hlen => ?_) | refine zAl (fun _ => ?_))
    first | refine zR ?_ | refine zQ ?_
    exact ⟨bl, rfl, hb⟩
end Go.Proofs.Ytnkafjkcjpajgaa
namespace Go.Proofs.Ytnkafjkcjpajgaa
open Go.RowKit
abbrev Lowed := {r : Rg // 1 ≤ r.1 ∧ r.1 ≤ 9999}
instance : Inhabited Lowed := ⟨⟨(1, 1), by simp⟩⟩
def rgVs (r : Rg) : List Value := [.int .i64 r.1, .int .i64 r.2]
def encR (r : Lowed) : List Value := rgVs r.1
theorem rts_rgs {M : Mm} : ∀ {l : List Rg} {xs : List Value}, RTs M (l.flatMap rgTs) xs → xs = l.flatMap rgVs
  | [], _, h => by simpa [RTs] using h
  | r :: l, xs, h => by
    simp only [List.flatMap_cons, rgTs, List.cons_append, List.nil_append, RTs, RT] at h
    obtain ⟨x, r1, rfl, rfl, y, r2, rfl, rfl, h⟩ := h
    rw [rts_rgs h]
    rfl
theorem rgs_rts {M : Mm} : ∀ (l : List Rg), RTs M (l.flatMap rgTs) (l.flatMap rgVs)
  | [] => by simp [RTs]
  | r :: l => by
    simp only [List.flatMap_cons, rgTs, rgVs, List.cons_append, List.nil_append, RTs, RT]
    exact ⟨_, _, rfl, rfl, _, _, rfl, rfl, rgs_rts l⟩
theorem vals_one (l : List Rg) : OneAll (l.flatMap rgVs) := fun x hx => by
  obtain ⟨r, _, h⟩ := List.mem_flatMap.1 hx
  simp only [rgVs, List.mem_cons, List.not_mem_nil, or_false] at h
  rcases h with rfl | rfl <;> rfl
theorem flat2_get {α β : Type} (f : α → List β) (hf : ∀ a, (f a).length = 2) : ∀ (l : List α) (t : Nat), (l.flatMap f)[t]? = (l[t / 2]?).bind fun a => (f a)[t % 2]?
  | [], t => by simp
  | a :: l, t => by
    rw [List.flatMap_cons]
    by_cases h : t < 2
    · rw [List.getElem?_append_left (by rw [hf]; exact h), show t / 2 = 0 by omega, show t % 2 = t by omega]
      rfl
    · rw [List.getElem?_append_right (by rw [hf]; omega), hf, flat2_get f hf l, show t / 2 = (t - 2) / 2 + 1 by omega, show t % 2 = (t - 2) % 2 by omega]
      rfl
theorem flatK_list (d : Array Lowed) : (Sort.flatK encR 2 d).toList = (d.toList.map (·.1)).flatMap rgVs := by
  apply List.ext_getElem?
  intro t
  rw [List.flatMap_map, flat2_get (fun r : Lowed => rgVs r.1) (fun _ => rfl)]
  by_cases h : t < d.size * 2
  · have h2 : t / 2 < d.size := by omega
    have h3 : (Sort.flatK encR 2 d)[t]! = (encR d[t / 2]!)[t % 2]! := Sort.get_flatK encR 2 d t h
    have h4 : t < (Sort.flatK encR 2 d).size := by rw [Sort.size_flatK]; exact h
    rw [getElem!_pos (Sort.flatK encR 2 d) t h4] at h3
    rw [Array.getElem?_toList, Array.getElem?_eq_getElem h4, h3, Array.getElem?_toList, Array.getElem?_eq_getElem h2, getElem!_pos d _ h2]
    have h5 : t % 2 < (encR d[t / 2]).length := by show t % 2 < 2; omega
    rw [getElem!_pos (encR d[t / 2]) (t % 2) h5]
    exact (List.getElem?_eq_getElem h5).symm
  · rw [Array.getElem?_toList, Array.getElem?_eq_none (by rw [Sort.size_flatK]; omega), Array.getElem?_toList, Array.getElem?_eq_none (by omega)]
    rfl
def cfR (x y : Lowed) : Int := x.1.1 - y.1.1
theorem ltR (x y : Lowed) : ltOf cfR x y = decide (x.1.1 < y.1.1) := by
  unfold ltOf cfR
  exact decide_eq_decide.2 (by omega)
theorem swoR : Sort.SWO (ltOf cfR) where
  irrefl x := by rw [ltR]; simp
  trans x y z h1 h2 := by rw [ltR] at *; simp at *; omega
  ntrans x y z h1 h2 := by rw [ltR] at *; simp at *; omega
theorem sortW_heap {α : Type} [Inhabited α] (enc : α → List Value) (k : Nat) (w : World) (blk off n : Nat) (d : Array α) (os : Array Obj) (hb : blk < w.heap.size) :
    (∀ b, b < w.heap.size → b ≠ blk → (sortWorldK enc k w blk off n d os).heap[b]? = w.heap[b]?) ∧
    (∀ cur e fr, w.heap[blk]? = some (.cells cur e fr) → (sortWorldK enc k w blk off n d os).heap[blk]? = some (.cells (Sort.putCells id off (Sort.flatK enc k d) cur) e fr)) ∧ w.heap.size ≤ (sortWorldK enc k w blk off n d os).heap.size := by
  have hh : (sortWorldK enc k w blk off n d os).heap = w.heap.modify blk (Sort.onCells (Sort.putCells id off (Sort.flatK enc k d))) ++ os := rfl
  rw [hh]
  refine ⟨fun b h1 h2 => ?_, fun cur e fr h => ?_, by rw [Array.size_append, Array.size_modify]; omega⟩
  · rw [Array.getElem?_append_left (by rw [Array.size_modify]; exact h1), Array.getElem?_modify, if_neg (Ne.symm h2)]
  · rw [Array.getElem?_append_left (by rw [Array.size_modify]; exact hb), Array.getElem?_modify, if_pos rfl, h]
    rfl
theorem putCells_list (F cur : Array Value) (off : Nat) (h : off + F.size ≤ cur.size) : ((Sort.putCells id off F cur).toList.drop off).take F.size = F.toList := by
  apply List.ext_getElem?
  intro t
  rw [List.getElem?_take]
  by_cases h1 : t < F.size
  · rw [if_pos h1, List.getElem?_drop, Array.getElem?_toList, Array.getElem?_toList, Array.getElem?_eq_getElem h1]
    have h2 : off + t < (Sort.putCells id off F cur).size := by simp only [Sort.putCells, Array.size_mapIdx]; omega
    rw [Array.getElem?_eq_getElem h2]
    simp only [Sort.putCells, Array.getElem_mapIdx]
    rw [if_pos ⟨by omega, by omega⟩, show off + t - off = t by omega, getElem!_pos F t h1]
    rfl
  · rw [if_neg h1, Array.getElem?_toList, Array.getElem?_eq_none (by omega)]
set_option maxHeartbeats 1000000 in
theorem sortF_ag {P : Program} {ρ : Shelf.Ren} (L : SlLaysF0.n6 P ρ) (aE : ∀ w, (isAgg (ρ.t 24)).run P w = .ok true w) (zE : ∀ w, (Go.sizeOf (ρ.t 24)).run P w = .ok 2 w) (hE : Enters P (ρ.f 6)) (g : FuncId) (eg : ∀ args w, (callFunc g args).run P w = .ok (.enter g args) w)
    (hc : ∀ (x y : Lowed) (W : World), Calls P g #[.agg (rgVs x.1).toArray, .agg (rgVs y.1).toArray] W fun e w' => e = .returned (.int .i64 (cfR x y)) ∧ ∃ q os', w' = Sort.grow (W.drewN q) os')
    (l : List Rg) (hl : ∀ r ∈ l, 1 ≤ r.1 ∧ r.1 ≤ 9999) (hlen : l.length < 4611686018427387904) (v : Value) (e : TypeId) :
    AG P (ρ.f 6) [.own 0 v, .c (.fn (.func g) [])] [.row v e 2 l.length (l.flatMap rgTs)] (fun r hs => r = .tup [] ∧ ∃ l' : List Rg, l'.Perm l ∧ l'.Pairwise (fun a b => a.1 ≤ b.1) ∧ hs = [.row v e 2 l'.length (l'.flatMap rgTs)]) := by
  refine ⟨hE, fun F M w vs hM hv => ?_⟩
  simp only [RAs, RA, RT, RTs] at hv
  obtain ⟨u, r1, rfl, ⟨rfl, -⟩, f', r2, rfl, ⟨cs, rfl, rfl⟩, rfl⟩ := hv
  obtain ⟨xs, ho, hx, h1, h2⟩ := hM.at_ 0 _ rfl
  obtain rfl := rts_rgs hx
  rcases ho.2 with ⟨rfl, h0⟩ | ⟨g0, off, cap, cur, rfl, hg, hnc, hcm, hcs, htk⟩
  · obtain rfl : l = [] := List.length_eq_zero_iff.1 h0
    refine (AnyF.slices_SortFunc_none L none 0 _ w).mono fun e' w' ⟨he, hw⟩ => ?_
    subst hw
    exact ⟨_, .tup [], _, M, he, ⟨rfl, [], List.Perm.nil, List.Pairwise.nil, rfl⟩, Ext.refl _ _, hM, by simp only [RA, RAs]; exact ⟨[], rfl, rfl⟩⟩
  · have hblk : g0 < w.heap.size := (Array.getElem?_eq_some_iff.1 hg).1
    obtain ⟨d, hd⟩ : ∃ d : Array Lowed, d.toList.map (·.1) = l := ⟨(l.attach.map fun r => (⟨r.1, hl r.1 r.2⟩ : Lowed)).toArray, by
      rw [List.map_map]
      exact List.attach_map_subtype_val l⟩
    have hsz : d.size = l.length := by rw [← hd, List.length_map, Array.length_toList]
    have hfl : (Sort.flatK encR 2 d).toList = l.flatMap rgVs := by rw [flatK_list, hd]
    have hH : Sort.HoldsK encR 2 w g0 off d := by
      intro j hj
      have hj2 : (l.flatMap rgVs)[j]? = some (Sort.flatK encR 2 d)[j]! := by
        rw [← hfl, Array.getElem?_toList, Array.getElem?_eq_getElem hj, getElem!_pos (Sort.flatK encR 2 d) j hj]
      refine ⟨?_, ?_⟩
      · have := ho.cells j _ hj2
        rwa [offs_add] at this
      · simp only [World.frozen?, hg]
        simp
    have hcon := AnyQ.slices_SortFunc L 2 aE zE encR (fun _ => rfl) (fun x v hv => by simp [encR, rgVs] at hv; rcases hv with rfl | rfl <;> rfl) cfR swoR g #[] g0 off cap d w eg (fun _ _ _ _ x y => hc x y _) hH hblk (by rw [hsz]; exact hlen)
    rw [hsz] at hcon
    refine hcon.mono fun e' w' ⟨he, d', n, os, hp, hs, hw⟩ => ?_
    obtain ⟨hW1, hW2, hW3⟩ := sortW_heap encR 2 w g0 off n d' os hblk
    have hp1 : d'.size = d.size := hp.1
    have hperm : d'.toList.Perm d.toList := by
      have h3 := hp.2.2
      have e1 : d'.extract 0 l.length = d' := by rw [← hsz, ← hp1]; exact Array.extract_size
      have e2 : d.extract 0 l.length = d := by rw [← hsz]; exact Array.extract_size
      rwa [e1, e2] at h3
    have hfl' := flatK_list d'
    have hs' : ((d'.toList.map (·.1)).length) = l.length := by rw [List.length_map, Array.length_toList, hp1, hsz]
    have hfz : (Sort.flatK encR 2 d').size = l.length * 2 := by rw [Sort.size_flatK, hp1, hsz]
    have hcz : off + (Sort.flatK encR 2 d').size ≤ cur.size := by
      rw [hfz]
      have := Nat.mul_le_mul_right 2 hnc
      omega
    have hW4 := hW2 cur e (0, 0) hg
    have hother : ∀ b, b < w.heap.size → b ≠ g0 → w'.heap[b]? = w.heap[b]? := by rw [hw]; exact hW1
    rw [← hw] at hW4 hW3
    have hos : w'.os = w.os ∧ w'.tape = w.tape ∧ w'.output = w.output := by rw [hw]; exact ⟨rfl, rfl, rfl⟩
    clear hw hcon hW1 hW2 hH
    have hout := hM.out 0 _ g0 rfl rfl
    have hown : OwnsO w' e 2 (.slice (some ⟨g0, off, none⟩) l.length cap) l.length ((d'.toList.map (·.1)).flatMap rgVs) := by
      refine ⟨by rw [← hfl', Array.length_toList, hfz], .inr ⟨g0, off, cap, _, rfl, hW4, hnc, hcm, by simp only [Sort.putCells, Array.size_mapIdx]; exact hcs, ?_⟩⟩
      have := putCells_list (Sort.flatK encR 2 d') cur off hcz
      rw [hfz, hfl'] at this
      exact this
    refine ⟨_, .tup [], _, M, he, ⟨rfl, d'.toList.map (·.1), ?_, ?_, rfl⟩, Ext.refl _ _, ?_, by simp only [RA, RAs]; exact ⟨[], rfl, rfl⟩⟩
    · rw [← hd]; exact hperm.map _
    · rw [List.pairwise_map, List.pairwise_iff_getElem]
      intro i j hi hj hij
      rw [Array.length_toList] at hi hj
      have := hs i j (Nat.zero_le _) hij (by rw [← hsz, ← hp1]; exact hj)
      rw [ltR, getElem!_pos d' j hj, getElem!_pos d' i hi, decide_eq_false_iff_not] at this
      rw [Array.getElem_toList, Array.getElem_toList]
      omega
    · rw [hs']
      refine ⟨fun p x hp => ?_, hM.ext, ⟨by rw [hos.1]; exact hM.frm.os, by rw [hos.2.1]; exact hM.frm.tape, by rw [hos.2.2]; exact hM.frm.output, Nat.le_trans hM.frm.size hW3, fun b hb hX => ?_⟩, fun i x hx => ?_, fun i j x y b hi hj _ _ => ?_, fun i x b hi hb => ?_⟩
      · obtain ⟨h3, h4⟩ := hM.mem p x hp
        refine ⟨?_, h4⟩
        have hne : p.block ≠ g0 := fun h => by have := hout.2 p h; rw [hp] at this; cases this
        have hlt : p.block < w.heap.size := by
          rcases Nat.lt_or_ge p.block w.heap.size with h | h
          · exact h
          · simp only [World.cell?, Array.getElem?_eq_none h] at h3; cases h3
        simp only [World.cell?, hother _ hlt hne]
        exact h3
      · rw [hother b (Nat.lt_of_lt_of_le hb hM.frm.size) (fun h => by
          rcases hout.1 with h5 | h5
          · exact hX (h ▸ h5)
          · omega)]
        exact hM.frm.block b hb hX
      · cases i with
        | zero =>
          obtain rfl : _ = x := by simpa using hx
          exact ⟨_, hown, rgs_rts _, vals_one _, by omega⟩
        | succ i => simp at hx
      · have hi0 : i = 0 := by have := (List.getElem?_eq_some_iff.1 hi).1; simp at this; exact this
        have hj0 : j = 0 := by have := (List.getElem?_eq_some_iff.1 hj).1; simp at this; exact this
        rw [hi0, hj0]
      · cases i with
        | zero =>
          obtain rfl : _ = x := by simpa using hi
          obtain rfl : g0 = b := by simpa [Blk.blk, Value.ownBlock] using hb
          exact hout
        | succ i => simp at hi
end Go.Proofs.Ytnkafjkcjpajgaa
namespace Go.Proofs.Ytnkafjkcjpajgaa
open Go.Shelf
def sortRg_ren : Go.Shelf.Ren := ⟨fun | 6 => 39 | 15 => 85 | 14 => 84 | 28 => 117 | 29 => 118 | 20 => 109 | 21 => 110 | 22 => 111 | 23 => 112 | 24 => 113 | 25 => 114 | 26 => 115 | 27 => 116 | 46 => 133 | 47 => 134 | 48 => 135 | 49 => 136 | 50 => 137 | 57 => 164 | n => n, fun | 22 => 22 | 24 => 32 | 25 => 88 | 3 => 3 | 39 => 162 | 0 => 0 | 53 => 202 | 55 => 204 | 4 => 4 | 46 => 196 | 45 => 195 | 50 => 173 | 5 => 5 | 9 => 9 | 66 => 223 | 70 => 116 | 76 => 256 | 77 => 257 | n => n, fun | n => n⟩
theorem sortRg : Go.Proofs.SlLaysF0.n6 Try.prog sortRg_ren := {
  mixed := by kernel_rfl
  f6 := ⟨Try.f39.name, by decide, Try.func39.trans (congrArg some (by kernel_rfl))⟩
  f14 := ⟨Try.f84.name, by decide, Try.func84.trans (congrArg some (by kernel_rfl))⟩
  f15 := Try.func85.trans (congrArg some (by kernel_rfl))
  f20 := ⟨Try.f109.name, by decide, Try.func109.trans (congrArg some (by kernel_rfl))⟩
  f21 := ⟨Try.f110.name, by decide, Try.func110.trans (congrArg some (by kernel_rfl))⟩
  f22 := ⟨Try.f111.name, by decide, Try.func111.trans (congrArg some (by kernel_rfl))⟩
  f23 := ⟨Try.f112.name, by decide, Try.func112.trans (congrArg some (by kernel_rfl))⟩
  f24 := ⟨Try.f113.name, by decide, Try.func113.trans (congrArg some (by kernel_rfl))⟩
  f25 := ⟨Try.f114.name, by decide, Try.func114.trans (congrArg some (by kernel_rfl))⟩
  f26 := ⟨Try.f115.name, by decide, Try.func115.trans (congrArg some (by kernel_rfl))⟩
  f27 := ⟨Try.f116.name, by decide, Try.func116.trans (congrArg some (by kernel_rfl))⟩
  f28 := Try.func117.trans (congrArg some (by kernel_rfl))
  f29 := Try.func118.trans (congrArg some (by kernel_rfl))
  f46 := ⟨Try.f133.name, by decide, Try.func133.trans (congrArg some (by kernel_rfl))⟩
  f47 := Try.func134.trans (congrArg some (by kernel_rfl))
  f48 := Try.func135.trans (congrArg some (by kernel_rfl))
  f49 := ⟨Try.f136.name, by decide, Try.func136.trans (congrArg some (by kernel_rfl))⟩
  f50 := ⟨Try.f137.name, by decide, Try.func137.trans (congrArg some (by kernel_rfl))⟩
  f57 := ⟨Try.f164.name, by decide, Try.func164.trans (congrArg some (by kernel_rfl))⟩
  t0 := Try.underlying0
  a0 := Try.isAgg0
  z0 := Try.sizeOf0
  v0 := Try.zeroValue0
  t3 := Try.underlying3
  a3 := Try.isAgg3
  z3 := Try.sizeOf3
  v3 := Try.zeroValue3
  t4 := Try.underlying4
  a4 := Try.isAgg4
  z4 := Try.sizeOf4
  v4 := Try.zeroValue4
  t5 := Try.underlying5
  a5 := Try.isAgg5
  z5 := Try.sizeOf5
  v5 := Try.zeroValue5
  t9 := Try.underlying9
  a9 := Try.isAgg9
  z9 := Try.sizeOf9
  v9 := Try.zeroValue9
  t22 := Try.underlying22
  a22 := Try.isAgg22
  z22 := Try.sizeOf22
  v22 := Try.zeroValue22
  t25 := Try.underlying88
  a25 := Try.isAgg88
  z25 := Try.sizeOf88
  v25 := Try.zeroValue88
  t39 := Try.underlying162
  a39 := Try.isAgg162
  z39 := Try.sizeOf162
  v39 := Try.zeroValue162
  t45 := Try.underlying195
  a45 := Try.isAgg195
  z45 := Try.sizeOf195
  v45 := Try.zeroValue195
  t46 := Try.underlying196
  a46 := Try.isAgg196
  z46 := Try.sizeOf196
  v46 := Try.zeroValue196
  t50 := Try.underlying173
  a50 := Try.isAgg173
  z50 := Try.sizeOf173
  v50 := Try.zeroValue173
  t53 := Try.underlying202
  a53 := Try.isAgg202
  z53 := Try.sizeOf202
  v53 := Try.zeroValue202
  t55 := Try.underlying204
  a55 := Try.isAgg204
  z55 := Try.sizeOf204
  v55 := Try.zeroValue204
  t66 := Try.underlying223
  a66 := Try.isAgg223
  z66 := Try.sizeOf223
  v66 := Try.zeroValue223
  t70 := Try.underlying116
  a70 := Try.isAgg116
  z70 := Try.sizeOf116
  v70 := Try.zeroValue116
  t76 := Try.underlying256
  a76 := Try.isAgg256
  z76 := Try.sizeOf256
  v76 := Try.zeroValue256
  t77 := Try.underlying257
  a77 := Try.isAgg257
  z77 := Try.sizeOf257
  v77 := Try.zeroValue257 }
end Go.Proofs.Ytnkafjkcjpajgaa
namespace Go.Proofs.Ytnkafjkcjpajgaa
open Go.RowKit
set_option maxHeartbeats 1000000 in
/-- the order that the ranges are sorted by -/
theorem cmpRg (x y : Lowed) (W : World) : Calls Try.prog 40 #[.agg (rgVs x.1).toArray, .agg (rgVs y.1).toArray] W fun e w' => e = .returned (.int .i64 (cfR x y)) ∧ ∃ q os', w' = Sort.grow (W.drewN q) os' := by
  obtain ⟨⟨a, b⟩, h1, h2⟩ := x
  obtain ⟨⟨c, d⟩, h3, h4⟩ := y
  dsimp only at h1 h2 h3 h4
  simp only [rgVs, cfR]
  go_enter Try.func40, Try.ntmps40
  go_wp2
  go_ret
  exact ⟨rfl, 0, _, by rw [Sort.alloc_eq_grow, Sort.alloc_eq_grow, Sort.grow_grow]; rfl⟩
theorem enters_sort : Enters Try.prog 39 := ⟨_, Try.func39, by kernel_rfl, by kernel_rfl⟩
theorem sort_ag (l : List Rg) (hl : ∀ r ∈ l, 1 ≤ r.1 ∧ r.1 ≤ 9999) (hlen : l.length ≤ 1048576) (v : Value) (e : TypeId) :
    AG Try.prog 39 [.own 0 v, .c (.fn (.func 40) [])] [.row v e 2 l.length (l.flatMap rgTs)] (fun r hs => r = .tup [] ∧ ∃ l' : List Rg, l'.Perm l ∧ l'.Pairwise (fun a b => a.1 ≤ b.1) ∧ hs = [.row v e 2 l'.length (l'.flatMap rgTs)]) :=
  sortF_ag (ρ := sortRg_ren) sortRg (fun w => Try.isAgg32 w) (fun w => Try.sizeOf32 w) enters_sort 40 (enters_of Try.func40 (by kernel_rfl) rfl) (fun x y W => cmpRg x y W) l hl (by omega) v e
set_option maxRecDepth 100000 in
set_option maxHeartbeats 1000000 in
theorem cloneRg_ag (l : List Rg) (hl : l.length ≤ 1048576) : AG Try.prog 38 [.c (rgRow l)] [] (fun r hs => ∃ v, r = .own 0 v ∧ hs = [.row v 32 2 l.length (l.flatMap rgTs)]) := by
  refine ag_enter 1 tok Try.func38 Try.ntmps38 Try.results38 rfl (by kernel_rfl) rfl fun F => ?_
  repeat (first | refine gG ?_ | refine zAp (fun _ => ?_))
  refine zNs (fun b hb => ?_)
  cases b
  · repeat (first | refine gX ?_ | refine zAp (fun _ => ?_))
    refine zBo (fun _ => ?_)
    repeat (first | refine gG ?_ | refine zAp (fun _ => ?_))
    refine zG ?_
    exact ⟨_, rfl, by simp only [List.nil_append, Nat.zero_add]⟩
  · have h0 := hb rfl
    have : l = [] := List.eq_nil_of_length_eq_zero h0
    subst this
    repeat (first | refine gO ?_ | refine ac_seq ?_ | refine ac_block ?_ | refine ac_region ?_ | refine ac_skip ?_ | refine zT ?_)
    refine x_own 2 32 2 rfl rfl rfl rfl rfl ?_
    repeat (first | refine gG ?_ | refine zAp (fun _ => ?_))
    refine zG ?_
    exact ⟨_, rfl, rfl⟩
def allOk (l : List Rg) : Bool := !(l.any fun r => !rgOk r)
theorem allOk_iff {l : List Rg} : allOk l = true ↔ ∀ r ∈ l, rgOk r = true := by simp [allOk]
def setV (l : List Rg) : List Rg × Int := bif allOk l then lim (runsTo (inB l) 9999) else ([], 1)
theorem merge_runs {l l' : List Rg} (hp : l'.Perm l) (hs : l'.Pairwise fun a b => a.1 ≤ b.1) (hl : ∀ r ∈ l, rgOk r = true) : runsTo (inB l) 9999 = mergeL l' := by
  have hb : ∀ v, inR l' v → 1 ≤ v ∧ v ≤ 9999 := fun v ⟨r, hr, h1, h2⟩ => by
    have := rgOk_iff.1 (hl r (hp.mem_iff.1 hr))
    omega
  have hok := mergeL_ok l' hs fun r hr => (rgOk_iff.1 (hl r (hp.mem_iff.1 hr))).2.2
  refine runs_eq hok.1 (fun r hr => ?_) fun v _ _ => ?_
  · have h1 := hok.1.2 r hr
    have h2 := hb r.1 ((hok.2 r.1).1 ⟨r, hr, Int.le_refl _, h1⟩)
    have h3 := hb r.2 ((hok.2 r.2).1 ⟨r, hr, h1, Int.le_refl _⟩)
    exact ⟨h2.1, h3.2⟩
  · rw [inB_iff, hok.2]
    constructor
    · rintro ⟨r, hr, h⟩; exact ⟨r, hp.mem_iff.2 hr, h⟩
    · rintro ⟨r, hr, h⟩; exact ⟨r, hp.mem_iff.1 hr, h⟩
theorem mergeStep_bound {o : List Rg} {r : Rg} (ho : ∀ q ∈ o, 1 ≤ q.2 ∧ q.2 ≤ 9999) (hr : 1 ≤ r.2 ∧ r.2 ≤ 9999) : ∀ q ∈ mergeStep o r, 1 ≤ q.2 ∧ q.2 ≤ 9999 := by
  rcases snoc_cases o with rfl | ⟨A, q, rfl⟩
  · intro x hx
    rw [List.mem_singleton.1 hx]; exact hr
  · rw [merge_snoc]
    have hq := ho q (by simp)
    intro x hx
    split at hx
    · rcases List.mem_append.1 hx with hx | hx
      · exact ho x (List.mem_append_left _ hx)
      · rw [List.mem_singleton.1 hx]; simp only; omega
    · rcases List.mem_append.1 hx with hx | hx
      · exact ho x hx
      · rw [List.mem_singleton.1 hx]; exact hr
theorem spl_last (A : List Rg) (q : Rg) (z : Int) {o : Nat} (h : o = A.length * 2 + 1) : spl ((A ++ [q]).flatMap rgTs) o [.lit (.int .i64 z)] = (A ++ [(q.1, z)]).flatMap rgTs := by
  subst h
  show ((A ++ [q]).flatMap rgTs).set (A.length * 2 + 1) (.lit (.int .i64 z)) = _
  have hl : (A.flatMap rgTs).length = A.length * 2 := by
    induction A with
    | nil => rfl
    | cons a A ih => rw [List.flatMap_cons, List.length_append, ih, List.length_cons]; show 2 + _ = _; omega
  rw [List.flatMap_append, List.flatMap_append, List.set_append_right _ _ (by omega), hl, show A.length * 2 + 1 - A.length * 2 = 1 by omega]
  rfl
theorem flatR_len (A : List Rg) : (A.flatMap rgTs).length = A.length * 2 := by
  induction A with
  | nil => rfl
  | cons a A ih => rw [List.flatMap_cons, List.length_append, ih, List.length_cons]; show 2 + _ = _; omega
set_option maxRecDepth 100000 in
set_option maxHeartbeats 4000000 in
theorem set_af (l : List Rg) (hlen : l.length ≤ 1048576) : AF Try.prog 9 [rgRow l] (· = resT (setV l)) := by
  have hc := hasRg_af (fun r => !rgOk r) 36 [] l (fun r _ => wrong_af r)
  have hcl := cloneRg_ag l hlen
  unfold setV
  have hao : allOk l = !(l.any fun r => !rgOk r) := rfl
  have hai := @allOk_iff l
  generalize allOk l = ao at *
  rw [show (l.any fun r => !rgOk r) = !ao by rw [hao, Bool.not_not]] at hc
  clear hao
  refine af_enter tok Try.func9 Try.ntmps9 Try.results9 rfl (by kernel_rfl) rfl rfl fun F hX => ?_
  repeat (first | refine gG ?_ | refine zN1 (fun hlen => ?_) | refine zN2 (fun hlen => ?_) | refine zAl (fun _ => ?_) | refine zAp (fun _ => ?_))
  refine zCall (hc) ?_
  rintro _ rfl
  clear hc
  cases ao
  · repeat (first | refine gG ?_ | refine zN1 (fun hlen => ?_) | refine zN2 (fun hlen => ?_) | refine zAl (fun _ => ?_) | refine zAp (fun _ => ?_))
    first | refine zR (ts := [rgRow [], .lit (.int .i64 1)]) ?_ | refine zQ (ts := [rgRow [], .lit (.int .i64 1)]) ?_
    rfl
  · replace hai := hai.1 rfl
    have hsrt := fun v => sort_ag l (fun r hr => by have := rgOk_iff.1 (hai r hr); omega) hlen v 32
    repeat (first | refine gG ?_ | refine zN1 (fun hlen => ?_) | refine zN2 (fun hlen => ?_) | refine zAl (fun _ => ?_) | refine zAp (fun _ => ?_))
    refine zCallG [] hcl ?_
    rintro _ _ ⟨v, rfl, rfl⟩
    refine ⟨.own 0 v, _, re_own, rfl, rfl, ?_⟩
    repeat (first | refine gG ?_ | refine zN1 (fun hlen => ?_) | refine zN2 (fun hlen => ?_) | refine zAl (fun _ => ?_) | refine zAp (fun _ => ?_))
    refine zCallG [0] (hsrt v) ?_
    rintro _ _ ⟨rfl, l', hp, hs, rfl⟩
    refine ⟨.tup [], _, re_refl, rfl, rfl, ?_⟩
    have hrun := merge_runs hp hs hai
    have hok : ∀ r ∈ l', rgOk r = true := fun r hr => hai r (hp.mem_iff.1 hr)
    have hl' : l'.length ≤ 1048576 := by rw [hp.length_eq]; exact hlen
    rw [hrun]
    clear hsrt hcl hai hp hs hrun hlen
    repeat (first | refine gG ?_ | refine zN1 (fun hlen => ?_) | refine zN2 (fun hlen => ?_) | refine zAl (fun _ => ?_) | refine zAp (fun _ => ?_))
    refine x_own 5 32 2 rfl rfl rfl rfl rfl ?_
    refine x_loop [5, 7, 8, 17, 18, 19, 20, 21, 22, 23, 24, 25, 26, 27, 28, 29, 30, 31, 32, 33, 34, 35, 36, 37, 38, 39, 40, 41, 42, 43, 44, 45, 46, 47, 48, 49, 50, 51, 52, 53] (fun y : Nat × Value => [(17, .c (.lit (.int .i64 (y.1 : Nat)))), (5, .own 1 y.2)]) (fun y => [.row v 32 2 l'.length (l'.flatMap rgTs), .row y.2 32 2 (mergeL (l'.take y.1)).length ((mergeL (l'.take y.1)).flatMap rgTs)])
      (fun y => y.1 ≤ l'.length ∧ ∀ q ∈ mergeL (l'.take y.1), 1 ≤ q.2 ∧ q.2 ≤ 9999) (fun y => l'.length - y.1) (0, .slice none 0 0) ⟨Nat.zero_le _, fun q hq => by rw [List.take_zero] at hq; cases hq⟩ ⟨rfl, rfl, trivial⟩ rfl ?_
    rintro ⟨k, u⟩ ⟨hk, hbd⟩
    dsimp only at hk hbd ⊢
    repeat (first | refine gG ?_ | refine zN1 (fun hlen => ?_) | refine zN2 (fun hlen => ?_) | refine zAl (fun _ => ?_) | refine zAp (fun _ => ?_))
    refine x_cond rfl (fun h => ?_) (fun h => ?_)
    · have hk' : k < l'.length := by simpa using h
      obtain ⟨r, hr⟩ := nth hk'
      have hat := Rg.at hr
      have hro := rgOk_iff.1 (hok r (List.mem_of_getElem? hr))
      have hsn := mergeL_snoc hr
      have hle := mergeL_le (l'.take k)
      rw [List.length_take] at hle
      have hbn := mergeStep_bound hbd (r := r) (by omega)
      rw [← hsn] at hbn
      clear h hr hok
      generalize mergeL (l'.take k) = o at *
      generalize hO : mergeL (l'.take (k + 1)) = o' at *
      obtain ⟨a, b⟩ := r
      rcases snoc_cases o with rfl | ⟨A, q, rfl⟩
      · have d1 : decide ((0 : Int) ≤ -1) = false := rfl
        replace hsn : o' = [(a, b)] := hsn
        subst hsn
        repeat (first | refine gG ?_ | refine zN1 (fun hlen => ?_) | refine zN2 (fun hlen => ?_) | refine zAl (fun _ => ?_) | refine zAp (fun _ => ?_))
        refine zIxo k hk' ?_
        repeat (first | refine gG ?_ | refine zN1 (fun hlen => ?_) | refine zN2 (fun hlen => ?_) | refine zAl (fun _ => ?_) | refine zAp (fun _ => ?_))
        refine zElo hat (rgTs_len _) ?_
        repeat (first | refine gG ?_ | refine zN1 (fun hlen => ?_) | refine zN2 (fun hlen => ?_) | refine zAl (fun _ => ?_) | refine zAp (fun _ => ?_))
        refine lo_sub rfl rfl (r := -1) (by rw [IntWalk.i64_in _ (by decide)]; rfl) ?_
        repeat (first | refine gG ?_ | refine zN1 (fun hlen => ?_) | refine zN2 (fun hlen => ?_) | refine zAl (fun _ => ?_) | refine zAp (fun _ => ?_))
        refine ac_draw [1, 1, 1, 1, 1, 1, 1, 1, 1, 1, 1, 1, 1] [0, 1, 2, 3, 4, 5, 6, 7, 8, 9, 10, 11, 12] (by kernel_rfl) (by kernel_rfl) ?_
        refine gW ?_
        refine w_nil ?_
        repeat (first | refine gG ?_ | refine zN1 (fun hlen => ?_) | refine zN2 (fun hlen => ?_) | refine zAl (fun _ => ?_) | refine zAp (fun _ => ?_))
        exact ⟨(k + 1, _), ⟨hk', by dsimp only; rw [hO]; exact hbn⟩, by simp only; omega, x_wkd 2 ⟨rfl, rfl, trivial⟩ (by dsimp only; rw [hO]; rfl) (by repeat (first | exact ag_refl | refine ag_upd rfl ?_ | refine ag_at rfl rfl ?_))⟩
      · have hl1 : (A ++ [q]).length = A.length + 1 := by simp
        have hq2 := hbd q (by simp)
        have g1 : ((A ++ [q]).flatMap rgTs)[A.length * 2 + 1]? = some (.lit (.int .i64 q.2)) := flat_get rgTs 2 rgTs_len (k := A.length) (by simp) (j := 1) (by omega)
        have hAk : A.length < (A ++ [q]).length := by omega
        have d1 : decide ((0 : Int) ≤ ((A.length : Nat) : Int)) = true := decide_eq_true (by omega)
        have hlen2 : A.length * 2 + 1 + 1 ≤ ((A ++ [q]).flatMap rgTs).length := by rw [flatR_len, hl1]; omega
        rw [merge_snoc] at hsn
        dsimp only at hsn
        cases d2 : decide (a ≤ q.2 + 1)
        · rw [if_neg (of_decide_eq_false d2)] at hsn
          have hone := rgs_one (A ++ [q]) (a, b)
          rw [← hsn] at hone
          clear hbd
          repeat (first | refine gG ?_ | refine zN1 (fun hlen => ?_) | refine zN2 (fun hlen => ?_) | refine zAl (fun _ => ?_) | refine zAp (fun _ => ?_))
          refine zIxo k hk' ?_
          repeat (first | refine gG ?_ | refine zN1 (fun hlen => ?_) | refine zN2 (fun hlen => ?_) | refine zAl (fun _ => ?_) | refine zAp (fun _ => ?_))
          refine zElo hat (rgTs_len _) ?_
          repeat (first | refine gG ?_ | refine zN1 (fun hlen => ?_) | refine zN2 (fun hlen => ?_) | refine zAl (fun _ => ?_) | refine zAp (fun _ => ?_))
          refine lo_sub rfl rfl (r := ((A.length : Nat) : Int)) (by rw [IntWalk.i64_in _ (by omega)]; omega) ?_
          repeat (first | refine gG ?_ | refine zN1 (fun hlen => ?_) | refine zN2 (fun hlen => ?_) | refine zAl (fun _ => ?_) | refine zAp (fun _ => ?_))
          refine ac_draw [1, 1, 1, 1, 1, 1, 1, 1, 1, 1, 1, 1, 1] [0, 1, 2, 3, 4, 5, 6, 7, 8, 9, 10, 11, 12] (by kernel_rfl) (by kernel_rfl) ?_
          refine gW ?_
          try (first | (apply w_un; (focus exact rfl); (focus exact rfl); (focus exact rfl); (focus exact rfl)) | (apply w_no; (focus exact rfl); (focus exact rfl); (focus exact rfl); (focus exact rfl); focus (first | rfl | assumption | exact neg_t (by assumption) | exact neg_f (by assumption))) | (apply w_qg; (focus exact rfl); (focus exact rfl); (focus exact rfl); (focus exact rfl); (focus (first | rfl | assumption | exact neg_t (by assumption) | exact neg_f (by assumption))); (focus (intro _; (refine zIxo A.length hAk ?_); exact det_refl))))
          try refine gW ?_
          try (first | (apply w_un; (focus exact rfl); (focus exact rfl); (focus exact rfl); (focus exact rfl)) | (apply w_no; (focus exact rfl); (focus exact rfl); (focus exact rfl); (focus exact rfl); focus (first | rfl | assumption | exact neg_t (by assumption) | exact neg_f (by assumption))) | (apply w_qg; (focus exact rfl); (focus exact rfl); (focus exact rfl); (focus exact rfl); (focus (first | rfl | assumption | exact neg_t (by assumption) | exact neg_f (by assumption))); (focus (intro _; (refine zElo1 g1 ?_); exact det_refl))))
          (first | (apply w_un; (focus exact rfl); (focus exact rfl); (focus exact rfl); (focus exact rfl)) | (apply w_no; (focus exact rfl); (focus exact rfl); (focus exact rfl); (focus exact rfl); focus (first | rfl | assumption | exact neg_t (by assumption) | exact neg_f (by assumption))) | (apply w_qg; (focus exact rfl); (focus exact rfl); (focus exact rfl); (focus exact rfl); (focus (first | rfl | assumption | exact neg_t (by assumption) | exact neg_f (by assumption))); (focus (intro _; (refine lo_add rfl rfl (r := q.2 + 1) (by rw [IntWalk.i64_in _ (by omega)]) ?_); exact det_refl))))
          try refine gW ?_
          refine w_nil ?_
          repeat (first | refine gG ?_ | refine zN1 (fun hlen => ?_) | refine zN2 (fun hlen => ?_) | refine zAl (fun _ => ?_) | refine zAp (fun _ => ?_))
          exact ⟨(k + 1, _), ⟨hk', by dsimp only; rw [hO]; exact hbn⟩, by simp only; omega, x_wkd 2 ⟨rfl, rfl, trivial⟩ (by dsimp only; rw [hO, hone.1, hone.2]; rfl) (by repeat (first | exact ag_refl | refine ag_upd rfl ?_ | refine ag_at rfl rfl ?_))⟩
        · rw [if_pos (of_decide_eq_true d2)] at hsn
          have hsp := spl_last A q (max q.2 b) (o := A.length * 2 + 1) rfl
          rw [← hsn] at hsp
          have hl2 : o'.length = (A ++ [q]).length := by rw [hsn]; simp
          clear hbd
          repeat (first | refine gG ?_ | refine zN1 (fun hlen => ?_) | refine zN2 (fun hlen => ?_) | refine zAl (fun _ => ?_) | refine zAp (fun _ => ?_))
          refine zIxo k hk' ?_
          repeat (first | refine gG ?_ | refine zN1 (fun hlen => ?_) | refine zN2 (fun hlen => ?_) | refine zAl (fun _ => ?_) | refine zAp (fun _ => ?_))
          refine zElo hat (rgTs_len _) ?_
          repeat (first | refine gG ?_ | refine zN1 (fun hlen => ?_) | refine zN2 (fun hlen => ?_) | refine zAl (fun _ => ?_) | refine zAp (fun _ => ?_))
          refine lo_sub rfl rfl (r := ((A.length : Nat) : Int)) (by rw [IntWalk.i64_in _ (by omega)]; omega) ?_
          repeat (first | refine gG ?_ | refine zN1 (fun hlen => ?_) | refine zN2 (fun hlen => ?_) | refine zAl (fun _ => ?_) | refine zAp (fun _ => ?_))
          refine ac_draw [1, 1, 1, 1, 1, 1, 1, 1, 1, 1, 1, 1, 1] [0, 1, 2, 3, 4, 5, 6, 7, 8, 9, 10, 11, 12] (by kernel_rfl) (by kernel_rfl) ?_
          refine gW ?_
          try (first | (apply w_un; (focus exact rfl); (focus exact rfl); (focus exact rfl); (focus exact rfl)) | (apply w_no; (focus exact rfl); (focus exact rfl); (focus exact rfl); (focus exact rfl); focus (first | rfl | assumption | exact neg_t (by assumption) | exact neg_f (by assumption))) | (apply w_qg; (focus exact rfl); (focus exact rfl); (focus exact rfl); (focus exact rfl); (focus (first | rfl | assumption | exact neg_t (by assumption) | exact neg_f (by assumption))); (focus (intro _; (refine zIxo A.length hAk ?_); exact det_refl))))
          try refine gW ?_
          try (first | (apply w_un; (focus exact rfl); (focus exact rfl); (focus exact rfl); (focus exact rfl)) | (apply w_no; (focus exact rfl); (focus exact rfl); (focus exact rfl); (focus exact rfl); focus (first | rfl | assumption | exact neg_t (by assumption) | exact neg_f (by assumption))) | (apply w_qg; (focus exact rfl); (focus exact rfl); (focus exact rfl); (focus exact rfl); (focus (first | rfl | assumption | exact neg_t (by assumption) | exact neg_f (by assumption))); (focus (intro _; (refine zElo1 g1 ?_); exact det_refl))))
          (first | (apply w_un; (focus exact rfl); (focus exact rfl); (focus exact rfl); (focus exact rfl)) | (apply w_no; (focus exact rfl); (focus exact rfl); (focus exact rfl); (focus exact rfl); focus (first | rfl | assumption | exact neg_t (by assumption) | exact neg_f (by assumption))) | (apply w_qg; (focus exact rfl); (focus exact rfl); (focus exact rfl); (focus exact rfl); (focus (first | rfl | assumption | exact neg_t (by assumption) | exact neg_f (by assumption))); (focus (intro _; (refine lo_add rfl rfl (r := q.2 + 1) (by rw [IntWalk.i64_in _ (by omega)]) ?_); exact det_refl))))
          try refine gW ?_
          refine w_nil ?_
          repeat (first | refine gG ?_ | refine zN1 (fun hlen => ?_) | refine zN2 (fun hlen => ?_) | refine zAl (fun _ => ?_) | refine zAp (fun _ => ?_))
          refine ac_draw [1, 1, 1, 1, 1, 1, 1, 1, 1, 1, 1, 1, 2] [0, 1, 2, 3, 4, 5, 6, 7, 8, 9, 10, 11, 12] (by kernel_rfl) (by kernel_rfl) ?_
          refine gW ?_
          apply w_q; (focus exact rfl); (focus exact rfl); focus (intro _; (refine zIxo A.length hAk ?_); exact det_refl)
          refine gW ?_
          apply w_q; (focus exact rfl); (focus exact rfl); focus (intro _; (refine zElo1 g1 ?_); exact det_refl)
          refine gW ?_
          apply w_q; (focus exact rfl); (focus exact rfl); focus (intro _; (refine zMax ?_); exact det_refl)
          apply w_q; (focus exact rfl); (focus exact rfl); focus (intro _; (refine zIxo A.length hAk ?_); exact det_refl)
          refine gW ?_
          apply w_l; (focus exact rfl); (focus exact rfl); (refine zSe (us := [.lit (.int .i64 (max q.2 b))]) hsp hlen2 ?_)
          refine w_nil ?_
          repeat (first | refine gG ?_ | refine zN1 (fun hlen => ?_) | refine zN2 (fun hlen => ?_) | refine zAl (fun _ => ?_) | refine zAp (fun _ => ?_))
          exact ⟨(k + 1, _), ⟨hk', by dsimp only; rw [hO]; exact hbn⟩, by simp only; omega, x_wkd 2 ⟨rfl, rfl, trivial⟩ (by dsimp only; rw [hO, hl2]; rfl) (by repeat (first | exact ag_refl | refine ag_upd rfl ?_ | refine ag_at rfl rfl ?_))⟩
    · have hk' : k = l'.length := by
        have : ¬ k < l'.length := by simpa using h
        omega
      subst hk'
      rw [List.take_length]
      have hlm := limited_af (mergeL l')
      clear h hok hbd
      generalize mergeL l' = o at *
      generalize lim o = rr at *
      obtain ⟨ro, re⟩ := rr
      refine x_fz 5 rfl rfl rfl rfl ?_
      repeat (first | refine gG ?_ | refine zN1 (fun hlen => ?_) | refine zN2 (fun hlen => ?_) | refine zAl (fun _ => ?_) | refine zAp (fun _ => ?_))
      refine zCall (hlm) ?_
      rintro _ rfl
      repeat (first | refine gG ?_ | refine zN1 (fun hlen => ?_) | refine zN2 (fun hlen => ?_) | refine zAl (fun _ => ?_) | refine zAp (fun _ => ?_))
      first | refine zR (ts := [rgRow ro, .lit (.int .i64 re)]) ?_ | refine zQ (ts := [rgRow ro, .lit (.int .i64 re)]) ?_
      rfl
end Go.Proofs.Ytnkafjkcjpajgaa
namespace Go.Proofs.Ytnkafjkcjpajgaa
open Go.RowKit
theorem runs_step (g : Int → Bool) (n : Nat) : runsTo g (n + 1) = runStep g (runsTo g n) ((n + 1 : Nat) : Int) := by rw [runsTo]; rfl
set_option maxRecDepth 100000 in
set_option maxHeartbeats 4000000 in
theorem ranges_af (g : Int → Bool) (f : FuncId) (cap : List T) (hf : ∀ n : Nat, n < 9999 → AF Try.prog f (.lit (.int .i64 ((n + 1 : Nat) : Int)) :: cap) (· = .lit (.bool (g ((n + 1 : Nat) : Int))))) : AF Try.prog 43 [.fn (.func f) cap] (· = resT (lim (runsTo g 9999))) := by
  refine af_enter tok Try.func43 Try.ntmps43 Try.results43 rfl (by kernel_rfl) rfl rfl fun F hX => ?_
  repeat (first | refine gG ?_ | refine zN1 (fun hlen => ?_) | refine zN2 (fun hlen => ?_) | refine zAp (fun _ => ?_))
  refine x_own 4 89 2 rfl rfl rfl rfl rfl ?_
  refine x_loop [4, 5, 6, 7, 8, 9, 10, 11, 12, 13, 14, 15, 16, 17, 18, 19, 20, 21, 22, 23, 24, 25, 26, 27, 28, 29, 30, 31, 32, 33, 34, 35, 36, 37, 38, 39, 40, 41] (fun y : Nat × Value => [(5, .c (.lit (.int .i64 ((y.1 + 1 : Nat) : Int)))), (4, .own 0 y.2)]) (fun y => [.row y.2 89 2 (runsTo g y.1).length ((runsTo g y.1).flatMap rgTs)])
    (fun y => y.1 ≤ 9999) (fun y => 9999 - y.1) (0, .slice none 0 0) (Nat.zero_le _) ⟨rfl, rfl, trivial⟩ rfl ?_
  rintro ⟨n, u⟩ hn
  dsimp only at hn ⊢
  repeat (first | refine gG ?_ | refine zN1 (fun hlen => ?_) | refine zN2 (fun hlen => ?_) | refine zAp (fun _ => ?_))
  refine x_cond rfl (fun h => ?_) (fun h => ?_)
  · have hn' : n < 9999 := by have := of_decide_eq_true h; omega
    have hcall := hf n hn'
    have hst := runs_step g n
    have hle := runs_le g n
    clear h hf
    generalize runsTo g n = o at *
    generalize hO : runsTo g (n + 1) = o' at *
    generalize hgv : g ((n + 1 : Nat) : Int) = gv at *
    cases gv
    · have hst : o' = o := by rw [hst]; unfold runStep; rw [hgv]; rfl
      repeat (first | refine gG ?_ | refine zN1 (fun hlen => ?_) | refine zN2 (fun hlen => ?_) | refine zAp (fun _ => ?_))
      refine zCallc (hcall) ?_
      rintro _ rfl
      repeat (first | refine gG ?_ | refine zN1 (fun hlen => ?_) | refine zN2 (fun hlen => ?_) | refine zAp (fun _ => ?_))
      exact ⟨(n + 1, u), hn', by simp only; omega, x_wkd 1 ⟨rfl, rfl, trivial⟩ (by dsimp only; rw [hO, hst]; rfl) (by repeat (first | exact ag_refl | refine ag_upd rfl ?_ | refine ag_at rfl rfl ?_))⟩
    · rcases snoc_cases o with rfl | ⟨A, q, rfl⟩
      · have hst : o' = [(((n + 1 : Nat) : Int), ((n + 1 : Nat) : Int))] := by rw [hst]; unfold runStep; rw [hgv]; rfl
        have d1 : decide ((0 : Int) < ((([] : List Rg).length : Nat) : Int)) = false := rfl
        subst hst
        repeat (first | refine gG ?_ | refine zN1 (fun hlen => ?_) | refine zN2 (fun hlen => ?_) | refine zAp (fun _ => ?_))
        refine zCallc (hcall) ?_
        rintro _ rfl
        repeat (first | refine gG ?_ | refine zN1 (fun hlen => ?_) | refine zN2 (fun hlen => ?_) | refine zAp (fun _ => ?_))
        refine zBda ?_
        repeat (first | refine gG ?_ | refine zN1 (fun hlen => ?_) | refine zN2 (fun hlen => ?_) | refine zAp (fun _ => ?_))
        exact ⟨(n + 1, _), hn', by simp only; omega, x_wkd 1 ⟨rfl, rfl, trivial⟩ (by dsimp only; rw [hO]; rfl) (by repeat (first | exact ag_refl | refine ag_upd rfl ?_ | refine ag_at rfl rfl ?_))⟩
      · have hl1 : (A ++ [q]).length = A.length + 1 := by simp
        have d1 : decide ((0 : Int) < (((A ++ [q]).length : Nat) : Int)) = true := decide_eq_true (by omega)
        have g1 : ((A ++ [q]).flatMap rgTs)[A.length * 2 + 1 * 1]? = some (.lit (.int .i64 q.2)) := flat_get rgTs 2 rgTs_len (k := A.length) (by simp) (j := 1) (by omega)
        have hAk : A.length < (A ++ [q]).length := by omega
        have hlen2 : A.length * 2 + 1 * 1 + 1 ≤ ((A ++ [q]).flatMap rgTs).length := by rw [flatR_len, hl1]; omega
        rw [run_snoc, hgv, cond_true, show (((n + 1 : Nat) : Int) - 1) = ((n : Nat) : Int) by omega] at hst
        cases d2 : decide (q.2 = ((n : Nat) : Int))
        · rw [if_neg (of_decide_eq_false d2)] at hst
          have hone := rgs_one (A ++ [q]) (((n + 1 : Nat) : Int), ((n + 1 : Nat) : Int))
          rw [← hst] at hone
          repeat (first | refine gG ?_ | refine zN1 (fun hlen => ?_) | refine zN2 (fun hlen => ?_) | refine zAp (fun _ => ?_))
          refine zCallc (hcall) ?_
          rintro _ rfl
          repeat (first | refine gG ?_ | refine zN1 (fun hlen => ?_) | refine zN2 (fun hlen => ?_) | refine zAp (fun _ => ?_))
          refine lo_sub rfl rfl (r := ((A.length : Nat) : Int)) (by rw [IntWalk.i64_in _ (by omega)]; omega) ?_
          repeat (first | refine gG ?_ | refine zN1 (fun hlen => ?_) | refine zN2 (fun hlen => ?_) | refine zAp (fun _ => ?_))
          refine zIxo A.length hAk ?_
          repeat (first | refine gG ?_ | refine zN1 (fun hlen => ?_) | refine zN2 (fun hlen => ?_) | refine zAp (fun _ => ?_))
          refine zIxa (n := 2) 1 (by decide) ?_
          repeat (first | refine gG ?_ | refine zN1 (fun hlen => ?_) | refine zN2 (fun hlen => ?_) | refine zAp (fun _ => ?_))
          refine zElo1 g1 ?_
          repeat (first | refine gG ?_ | refine zN1 (fun hlen => ?_) | refine zN2 (fun hlen => ?_) | refine zAp (fun _ => ?_))
          refine lo_sub rfl rfl (r := ((n : Nat) : Int)) (by rw [IntWalk.i64_in _ (by omega)]; omega) ?_
          repeat (first | refine gG ?_ | refine zN1 (fun hlen => ?_) | refine zN2 (fun hlen => ?_) | refine zAp (fun _ => ?_))
          refine zBda ?_
          repeat (first | refine gG ?_ | refine zN1 (fun hlen => ?_) | refine zN2 (fun hlen => ?_) | refine zAp (fun _ => ?_))
          exact ⟨(n + 1, _), hn', by simp only; omega, x_wkd 1 ⟨rfl, rfl, trivial⟩ (by dsimp only; rw [hO, hone.1, hone.2]; rfl) (by repeat (first | exact ag_refl | refine ag_upd rfl ?_ | refine ag_at rfl rfl ?_))⟩
        · rw [if_pos (of_decide_eq_true d2)] at hst
          have hsp := spl_last A q ((n + 1 : Nat) : Int) (o := A.length * 2 + 1 * 1) (by omega)
          rw [← hst] at hsp
          have hl2 : o'.length = (A ++ [q]).length := by rw [hst]; simp
          repeat (first | refine gG ?_ | refine zN1 (fun hlen => ?_) | refine zN2 (fun hlen => ?_) | refine zAp (fun _ => ?_))
          refine zCallc (hcall) ?_
          rintro _ rfl
          repeat (first | refine gG ?_ | refine zN1 (fun hlen => ?_) | refine zN2 (fun hlen => ?_) | refine zAp (fun _ => ?_))
          refine lo_sub rfl rfl (r := ((A.length : Nat) : Int)) (by rw [IntWalk.i64_in _ (by omega)]; omega) ?_
          repeat (first | refine gG ?_ | refine zN1 (fun hlen => ?_) | refine zN2 (fun hlen => ?_) | refine zAp (fun _ => ?_))
          refine zIxo A.length hAk ?_
          repeat (first | refine gG ?_ | refine zN1 (fun hlen => ?_) | refine zN2 (fun hlen => ?_) | refine zAp (fun _ => ?_))
          refine zIxa (n := 2) 1 (by decide) ?_
          repeat (first | refine gG ?_ | refine zN1 (fun hlen => ?_) | refine zN2 (fun hlen => ?_) | refine zAp (fun _ => ?_))
          refine zElo1 g1 ?_
          repeat (first | refine gG ?_ | refine zN1 (fun hlen => ?_) | refine zN2 (fun hlen => ?_) | refine zAp (fun _ => ?_))
          refine lo_sub rfl rfl (r := ((n : Nat) : Int)) (by rw [IntWalk.i64_in _ (by omega)]; omega) ?_
          repeat (first | refine gG ?_ | refine zN1 (fun hlen => ?_) | refine zN2 (fun hlen => ?_) | refine zAp (fun _ => ?_))
          refine lo_sub rfl rfl (r := ((A.length : Nat) : Int)) (by rw [IntWalk.i64_in _ (by omega)]; omega) ?_
          repeat (first | refine gG ?_ | refine zN1 (fun hlen => ?_) | refine zN2 (fun hlen => ?_) | refine zAp (fun _ => ?_))
          refine zIxo A.length hAk ?_
          repeat (first | refine gG ?_ | refine zN1 (fun hlen => ?_) | refine zN2 (fun hlen => ?_) | refine zAp (fun _ => ?_))
          refine zIxa (n := 2) 1 (by decide) ?_
          repeat (first | refine gG ?_ | refine zN1 (fun hlen => ?_) | refine zN2 (fun hlen => ?_) | refine zAp (fun _ => ?_))
          refine zSe (us := [.lit (.int .i64 ((n + 1 : Nat) : Int))]) hsp hlen2 ?_
          repeat (first | refine gG ?_ | refine zN1 (fun hlen => ?_) | refine zN2 (fun hlen => ?_) | refine zAp (fun _ => ?_))
          exact ⟨(n + 1, _), hn', by simp only; omega, x_wkd 1 ⟨rfl, rfl, trivial⟩ (by dsimp only; rw [hO, hl2]; rfl) (by repeat (first | exact ag_refl | refine ag_upd rfl ?_ | refine ag_at rfl rfl ?_))⟩
  · have hn' : n = 9999 := by have := of_decide_eq_false h; omega
    subst hn'
    clear h hf
    generalize runsTo g 9999 = o at *
    unfold lim
    cases d1 : decide (50 < ((o.length : Nat) : Int))
    · repeat (first | refine gG ?_ | refine zN1 (fun hlen => ?_) | refine zN2 (fun hlen => ?_) | refine zAp (fun _ => ?_))
      first | refine zR (ts := [rgRow o, .lit (.int .i64 0)]) ?_ | refine zQ (ts := [rgRow o, .lit (.int .i64 0)]) ?_
      rfl
    · repeat (first | refine gG ?_ | refine zN1 (fun hlen => ?_) | refine zN2 (fun hlen => ?_) | refine zAp (fun _ => ?_))
      first | refine zR (ts := [rgRow [], .lit (.int .i64 2)]) ?_ | refine zQ (ts := [rgRow [], .lit (.int .i64 2)]) ?_
      rfl
end Go.Proofs.Ytnkafjkcjpajgaa
namespace Go.Proofs.Ytnkafjkcjpajgaa
open Go.RowKit
theorem lim_len (l : List Rg) : (lim l).1.length ≤ 1048576 := by
  unfold lim
  cases d : decide (50 < ((l.length : Nat) : Int))
  · have := of_decide_eq_false d
    rw [cond_false]
    show l.length ≤ _
    omega
  · exact Nat.zero_le _
theorem setV_len (l : List Rg) : (setV l).1.length ≤ 1048576 := by
  unfold setV
  cases allOk l
  · exact Nat.zero_le _
  · exact lim_len _
end Go.Proofs.Ytnkafjkcjpajgaa
