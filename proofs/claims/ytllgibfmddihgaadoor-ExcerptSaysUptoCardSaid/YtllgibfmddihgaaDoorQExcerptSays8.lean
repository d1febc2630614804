/-
  Texts of this proof, part 8: Tea Ab33 Tea2.
-/
import Derived.Test.YtllgibfmddihgaaDoorQExcerptSays7
import Derived.Laws.Strings2
import Derived.Laws.StructEq
import Derived.Lib.AppendStr
import Derived.Lib.MinMax
import Derived.MapKept
namespace Go.Proofs.YtllgibfmddihgaaDoor
open Go.RowKit
/-- what is left of the number behind a list -/
def nextAt (n k : Nat) : Int := bif decide ((n : Int) ≤ (k : Int)) then (k : Int) - n else -1
/-- a list without its i-th part, if it has one -/
def cutl {α : Type} (l : List α) (i : Int) : List α := bif decide (i < 0) then l else l.eraseIdx i.toNat
theorem cutl_nil {α : Type} (i : Int) : cutl ([] : List α) i = [] := by unfold cutl; cases decide (i < 0) <;> rfl
theorem cutl_le {α : Type} (l : List α) (i : Int) : (cutl l i).length ≤ l.length := by
  unfold cutl
  cases decide (i < 0)
  · exact List.length_eraseIdx_le l i.toNat
  · exact Nat.le_refl _
theorem cutl_snoc {α : Type} {l : List α} {j : Nat} {a : α} (h : l[j]? = some a) (i : Int) : cutl (l.take (j + 1)) i = bif decide (((j : Nat) : Int) = i) then cutl (l.take j) i else cutl (l.take j) i ++ [a] := by
  obtain ⟨hj, rfl⟩ := List.getElem?_eq_some_iff.1 h
  have hl : (l.take j).length = j := by rw [List.length_take]; omega
  rw [List.take_succ_eq_append_getElem hj]
  unfold cutl
  by_cases h0 : i < 0
  · rw [decide_eq_true h0, decide_eq_false (show ¬ ((j : Int) = i) by omega)]; rfl
  · rw [decide_eq_false h0]
    simp only [cond]
    by_cases h1 : i.toNat < j
    · rw [decide_eq_false (show ¬ ((j : Int) = i) by omega), List.eraseIdx_append_of_lt_length (by omega)]
    · rw [List.eraseIdx_append_of_length_le (by omega), hl]
      by_cases h2 : (j : Int) = i
      · rw [decide_eq_true h2, show i.toNat - j = 0 by omega, List.eraseIdx_of_length_le (l := l.take j) (by omega)]
        simp
      · rw [decide_eq_false h2, List.eraseIdx_of_length_le (l := [l[j]]) (by simp; omega), List.eraseIdx_of_length_le (l := l.take j) (by omega)]
set_option maxRecDepth 100000 in
set_option maxHeartbeats 4000000 in
theorem withoutUs_af (l : List Us) (k : Nat) (hl : l.length ≤ 1048576) (hk : k ≤ 1099511627776) : AF Tryd.prog 105 [Us.row l, .lit (.int .i64 (k : Nat))] (· = .tup [Us.row (l.eraseIdx k), .lit (.int .i64 (nextAt l.length k))]) := by
  have d1 : decide (((k : Nat) : Int) < 0) = false := decide_eq_false (by omega)
  cases d2 : decide (((l.length : Nat) : Int) ≤ ((k : Nat) : Int))
  · have h2 : k < l.length := by simpa using d2
    have hA : (l.take k).length ≤ 1048576 := by rw [List.length_take]; omega
    have hB : (l.drop (k + 1)).length ≤ 1048576 := by rw [List.length_drop]; omega
    have hr : l.eraseIdx k = l.take k ++ l.drop (k + 1) := List.eraseIdx_eq_take_drop_succ l k
    have hn : nextAt l.length k = -1 := by unfold nextAt; rw [d2]; rfl
    rw [hr, hn]
    clear hr hn
    refine af_enter tok Tryd.func105 Tryd.ntmps105 Tryd.results105 rfl (by kernel_rfl) rfl rfl fun F hX => ?_
    repeat (first | refine gG ?_ | refine zN1 (fun hlen => ?_) | refine zN2 (fun hlen => ?_) | refine zSub ?_ | refine zAp (fun _ => ?_))
    refine ac_draw [2, 0, 0, 0, 2, 0, 0, 0, 0, 2, 1, 1] [1, 2, 3, 5, 6, 7, 8, 0, 4, 9, 10, 11] (by kernel_rfl) (by kernel_rfl) ?_
    refine gW ?_
    apply w_p; (focus exact rfl); (focus exact rfl); focus (intro _; (refine zPhf (f := Us.ts) (l := l) k (Nat.le_of_lt h2) Us.ts_len ?_); exact det_refl)
    refine gW ?_
    apply w_p; (focus exact rfl); (focus exact rfl); focus (intro _; (refine zPlf (f := Us.ts) (l := l) (k + 1) h2 Us.ts_len ?_); exact det_refl)
    apply w_l; (focus exact rfl); (focus exact rfl); (refine zBo (fun _ => ?_))
    apply w_l; (focus exact rfl); (focus exact rfl); (first | (refine zkL ?_; first | refine zL1 ?_ | refine zL2 ?_ | refine zL3 ?_ | refine zLp ?_) | refine zM ?_ | (refine zkF ?_; first | refine zF1 ?_ | refine zF2 ?_ | refine zF3 ?_) | refine zA ?_ | (refine zkB ?_; first | refine zC5 ?_ | refine zC6 ?_ | refine zC1 ?_ | refine zC2 ?_ | refine zC3 ?_ | refine zC4 ?_ | refine zS5 ?_ | refine zS6 ?_ | refine zS1 ?_ | refine zS2 ?_ | refine zS3 ?_ | refine zS4 ?_ | refine zInc ?_ | refine zQ1 ?_ | refine zQ2 ?_ | refine zQ3 ?_ | refine zQ4 ?_ | refine zQ5 ?_ | refine zQ6 ?_) | (refine zkI ?_; first | refine zN1 (fun hlen => ?_) | refine zN2 (fun hlen => ?_) | refine zN3 ?_ | refine zN4 ?_ | refine zAp (fun _ => ?_)) | refine zS ?_ | refine zAl (fun _ => ?_) | refine zBx (fun _ => ?_) | refine zPt ?_ | refine zPf ?_ | refine zE ?_ | refine zEA ?_ | refine zNot ?_ | refine zBd ?_ | refine zBs ?_ | refine zFn ?_ | refine zK1 ?_ | refine zK2 ?_)
    apply w_l; (focus exact rfl); (focus exact rfl); (first | (refine zkL ?_; first | refine zL1 ?_ | refine zL2 ?_ | refine zL3 ?_ | refine zLp ?_) | refine zM ?_ | (refine zkF ?_; first | refine zF1 ?_ | refine zF2 ?_ | refine zF3 ?_) | refine zA ?_ | (refine zkB ?_; first | refine zC5 ?_ | refine zC6 ?_ | refine zC1 ?_ | refine zC2 ?_ | refine zC3 ?_ | refine zC4 ?_ | refine zS5 ?_ | refine zS6 ?_ | refine zS1 ?_ | refine zS2 ?_ | refine zS3 ?_ | refine zS4 ?_ | refine zInc ?_ | refine zQ1 ?_ | refine zQ2 ?_ | refine zQ3 ?_ | refine zQ4 ?_ | refine zQ5 ?_ | refine zQ6 ?_) | (refine zkI ?_; first | refine zN1 (fun hlen => ?_) | refine zN2 (fun hlen => ?_) | refine zN3 ?_ | refine zN4 ?_ | refine zAp (fun _ => ?_)) | refine zS ?_ | refine zAl (fun _ => ?_) | refine zBx (fun _ => ?_) | refine zPt ?_ | refine zPf ?_ | refine zE ?_ | refine zEA ?_ | refine zNot ?_ | refine zBd ?_ | refine zBs ?_ | refine zFn ?_ | refine zK1 ?_ | refine zK2 ?_)
    refine gW ?_
    refine w_nil ?_
    repeat (first | refine gG ?_ | refine zN1 (fun hlen => ?_) | refine zN2 (fun hlen => ?_) | refine zSub ?_ | refine zAp (fun _ => ?_))
    first | refine zR ?_ | refine zQ ?_
    simp only [outT, Us.row, List.nil_append, Nat.zero_add, List.length_append, List.flatMap_append]
  · have h2 : l.length ≤ k := by simpa using d2
    have hr : l.eraseIdx k = l := List.eraseIdx_of_length_le h2
    have hn : nextAt l.length k = (k : Int) - l.length := by unfold nextAt; rw [d2]; rfl
    rw [hr, hn]
    clear hr hn
    refine af_enter tok Tryd.func105 Tryd.ntmps105 Tryd.results105 rfl (by kernel_rfl) rfl rfl fun F hX => ?_
    repeat (first | refine gG ?_ | refine zN1 (fun hlen => ?_) | refine zN2 (fun hlen => ?_) | refine zSub ?_ | refine zAp (fun _ => ?_))
    first | refine zR ?_ | refine zQ ?_
    rfl
set_option maxRecDepth 100000 in
set_option maxHeartbeats 4000000 in
theorem step1_ag (b1 b2 : Nat) (t0 t1 t3 t4 t5 t6 t7 : T) (l : List Us) (k : Nat) (hl : l.length ≤ 1048576) (hk : k ≤ 1099511627776) : AG Tryd.prog 104 [.ptr 0 b1 0, .ptr 1 b2 0] [.box b1 29 [.c t0, .c t1, .c (Us.row l), .c t3, .c t4, .c t5, .c t6, .c t7], .box b2 3 [.c (.lit (.int .i64 (k : Nat)))]]
    (fun r hs => r = .tup [] ∧ hs = [.box b1 29 [.c t0, .c t1, .c (Us.row (l.eraseIdx k)), .c t3, .c t4, .c t5, .c t6, .c t7], .box b2 3 [.c (.lit (.int .i64 (nextAt l.length k)))]]) := by
  have hc := withoutUs_af l k hl hk
  refine ag_enter 2 tok Tryd.func104 Tryd.ntmps104 Tryd.results104 rfl (by kernel_rfl) rfl fun F => ?_
  repeat (first | refine gG ?_)
  refine zCall (hc) ?_
  rintro _ rfl
  repeat (first | refine gG ?_)
  refine zG ?_
  exact ⟨rfl, rfl⟩
set_option maxRecDepth 100000 in
set_option maxHeartbeats 4000000 in
theorem withoutDa_af (l : List Da) (k : Nat) (hl : l.length ≤ 1048576) (hk : k ≤ 1099511627776) : AF Tryd.prog 107 [Da.row l, .lit (.int .i64 (k : Nat))] (· = .tup [Da.row (l.eraseIdx k), .lit (.int .i64 (nextAt l.length k))]) := by
  have d1 : decide (((k : Nat) : Int) < 0) = false := decide_eq_false (by omega)
  cases d2 : decide (((l.length : Nat) : Int) ≤ ((k : Nat) : Int))
  · have h2 : k < l.length := by simpa using d2
    have hA : (l.take k).length ≤ 1048576 := by rw [List.length_take]; omega
    have hB : (l.drop (k + 1)).length ≤ 1048576 := by rw [List.length_drop]; omega
    have hr : l.eraseIdx k = l.take k ++ l.drop (k + 1) := List.eraseIdx_eq_take_drop_succ l k
    have hn : nextAt l.length k = -1 := by unfold nextAt; rw [d2]; rfl
    rw [hr, hn]
    clear hr hn
    refine af_enter tok Tryd.func107 Tryd.ntmps107 Tryd.results107 rfl (by kernel_rfl) rfl rfl fun F hX => ?_
    repeat (first | refine gG ?_ | refine zN1 (fun hlen => ?_) | refine zN2 (fun hlen => ?_) | refine zSub ?_ | refine zAp (fun _ => ?_))
    refine ac_draw [2, 0, 0, 0, 2, 0, 0, 0, 0, 2, 1, 1] [1, 2, 3, 5, 6, 7, 8, 0, 4, 9, 10, 11] (by kernel_rfl) (by kernel_rfl) ?_
    refine gW ?_
    apply w_p; (focus exact rfl); (focus exact rfl); focus (intro _; (refine zPhf (f := Da.ts) (l := l) k (Nat.le_of_lt h2) Da.ts_len ?_); exact det_refl)
    refine gW ?_
    apply w_p; (focus exact rfl); (focus exact rfl); focus (intro _; (refine zPlf (f := Da.ts) (l := l) (k + 1) h2 Da.ts_len ?_); exact det_refl)
    apply w_l; (focus exact rfl); (focus exact rfl); (refine zBo (fun _ => ?_))
    apply w_l; (focus exact rfl); (focus exact rfl); (first | (refine zkL ?_; first | refine zL1 ?_ | refine zL2 ?_ | refine zL3 ?_ | refine zLp ?_) | refine zM ?_ | (refine zkF ?_; first | refine zF1 ?_ | refine zF2 ?_ | refine zF3 ?_) | refine zA ?_ | (refine zkB ?_; first | refine zC5 ?_ | refine zC6 ?_ | refine zC1 ?_ | refine zC2 ?_ | refine zC3 ?_ | refine zC4 ?_ | refine zS5 ?_ | refine zS6 ?_ | refine zS1 ?_ | refine zS2 ?_ | refine zS3 ?_ | refine zS4 ?_ | refine zInc ?_ | refine zQ1 ?_ | refine zQ2 ?_ | refine zQ3 ?_ | refine zQ4 ?_ | refine zQ5 ?_ | refine zQ6 ?_) | (refine zkI ?_; first | refine zN1 (fun hlen => ?_) | refine zN2 (fun hlen => ?_) | refine zN3 ?_ | refine zN4 ?_ | refine zAp (fun _ => ?_)) | refine zS ?_ | refine zAl (fun _ => ?_) | refine zBx (fun _ => ?_) | refine zPt ?_ | refine zPf ?_ | refine zE ?_ | refine zEA ?_ | refine zNot ?_ | refine zBd ?_ | refine zBs ?_ | refine zFn ?_ | refine zK1 ?_ | refine zK2 ?_)
    apply w_l; (focus exact rfl); (focus exact rfl); (first | (refine zkL ?_; first | refine zL1 ?_ | refine zL2 ?_ | refine zL3 ?_ | refine zLp ?_) | refine zM ?_ | (refine zkF ?_; first | refine zF1 ?_ | refine zF2 ?_ | refine zF3 ?_) | refine zA ?_ | (refine zkB ?_; first | refine zC5 ?_ | refine zC6 ?_ | refine zC1 ?_ | refine zC2 ?_ | refine zC3 ?_ | refine zC4 ?_ | refine zS5 ?_ | refine zS6 ?_ | refine zS1 ?_ | refine zS2 ?_ | refine zS3 ?_ | refine zS4 ?_ | refine zInc ?_ | refine zQ1 ?_ | refine zQ2 ?_ | refine zQ3 ?_ | refine zQ4 ?_ | refine zQ5 ?_ | refine zQ6 ?_) | (refine zkI ?_; first | refine zN1 (fun hlen => ?_) | refine zN2 (fun hlen => ?_) | refine zN3 ?_ | refine zN4 ?_ | refine zAp (fun _ => ?_)) | refine zS ?_ | refine zAl (fun _ => ?_) | refine zBx (fun _ => ?_) | refine zPt ?_ | refine zPf ?_ | refine zE ?_ | refine zEA ?_ | refine zNot ?_ | refine zBd ?_ | refine zBs ?_ | refine zFn ?_ | refine zK1 ?_ | refine zK2 ?_)
    refine gW ?_
    refine w_nil ?_
    repeat (first | refine gG ?_ | refine zN1 (fun hlen => ?_) | refine zN2 (fun hlen => ?_) | refine zSub ?_ | refine zAp (fun _ => ?_))
    first | refine zR ?_ | refine zQ ?_
    simp only [outT, Da.row, List.nil_append, Nat.zero_add, List.length_append, List.flatMap_append]
  · have h2 : l.length ≤ k := by simpa using d2
    have hr : l.eraseIdx k = l := List.eraseIdx_of_length_le h2
    have hn : nextAt l.length k = (k : Int) - l.length := by unfold nextAt; rw [d2]; rfl
    rw [hr, hn]
    clear hr hn
    refine af_enter tok Tryd.func107 Tryd.ntmps107 Tryd.results107 rfl (by kernel_rfl) rfl rfl fun F hX => ?_
    repeat (first | refine gG ?_ | refine zN1 (fun hlen => ?_) | refine zN2 (fun hlen => ?_) | refine zSub ?_ | refine zAp (fun _ => ?_))
    first | refine zR ?_ | refine zQ ?_
    rfl
set_option maxRecDepth 100000 in
set_option maxHeartbeats 4000000 in
theorem step2_ag (b1 b2 : Nat) (t0 t1 t2 t4 t5 t6 t7 : T) (l : List Da) (k : Nat) (hl : l.length ≤ 1048576) (hk : k ≤ 1099511627776) : AG Tryd.prog 106 [.ptr 0 b1 0, .ptr 1 b2 0] [.box b1 29 [.c t0, .c t1, .c t2, .c (Da.row l), .c t4, .c t5, .c t6, .c t7], .box b2 3 [.c (.lit (.int .i64 (k : Nat)))]]
    (fun r hs => r = .tup [] ∧ hs = [.box b1 29 [.c t0, .c t1, .c t2, .c (Da.row (l.eraseIdx k)), .c t4, .c t5, .c t6, .c t7], .box b2 3 [.c (.lit (.int .i64 (nextAt l.length k)))]]) := by
  have hc := withoutDa_af l k hl hk
  refine ag_enter 2 tok Tryd.func106 Tryd.ntmps106 Tryd.results106 rfl (by kernel_rfl) rfl fun F => ?_
  repeat (first | refine gG ?_)
  refine zCall (hc) ?_
  rintro _ rfl
  repeat (first | refine gG ?_)
  refine zG ?_
  exact ⟨rfl, rfl⟩
set_option maxRecDepth 100000 in
set_option maxHeartbeats 4000000 in
theorem withoutTr_af (l : List Tr) (k : Nat) (hl : l.length ≤ 1048576) (hk : k ≤ 1099511627776) : AF Tryd.prog 109 [Tr.row l, .lit (.int .i64 (k : Nat))] (· = .tup [Tr.row (l.eraseIdx k), .lit (.int .i64 (nextAt l.length k))]) := by
  have d1 : decide (((k : Nat) : Int) < 0) = false := decide_eq_false (by omega)
  cases d2 : decide (((l.length : Nat) : Int) ≤ ((k : Nat) : Int))
  · have h2 : k < l.length := by simpa using d2
    have hA : (l.take k).length ≤ 1048576 := by rw [List.length_take]; omega
    have hB : (l.drop (k + 1)).length ≤ 1048576 := by rw [List.length_drop]; omega
    have hr : l.eraseIdx k = l.take k ++ l.drop (k + 1) := List.eraseIdx_eq_take_drop_succ l k
    have hn : nextAt l.length k = -1 := by unfold nextAt; rw [d2]; rfl
    rw [hr, hn]
    clear hr hn
    refine af_enter tok Tryd.func109 Tryd.ntmps109 Tryd.results109 rfl (by kernel_rfl) rfl rfl fun F hX => ?_
    repeat (first | refine gG ?_ | refine zN1 (fun hlen => ?_) | refine zN2 (fun hlen => ?_) | refine zSub ?_ | refine zAp (fun _ => ?_))
    refine ac_draw [2, 0, 0, 0, 2, 0, 0, 0, 0, 2, 1, 1] [1, 2, 3, 5, 6, 7, 8, 0, 4, 9, 10, 11] (by kernel_rfl) (by kernel_rfl) ?_
    refine gW ?_
    apply w_p; (focus exact rfl); (focus exact rfl); focus (intro _; (refine zPhf (f := Tr.ts) (l := l) k (Nat.le_of_lt h2) Tr.ts_len ?_); exact det_refl)
    refine gW ?_
    apply w_p; (focus exact rfl); (focus exact rfl); focus (intro _; (refine zPlf (f := Tr.ts) (l := l) (k + 1) h2 Tr.ts_len ?_); exact det_refl)
    apply w_l; (focus exact rfl); (focus exact rfl); (refine zBo (fun _ => ?_))
    apply w_l; (focus exact rfl); (focus exact rfl); (first | (refine zkL ?_; first | refine zL1 ?_ | refine zL2 ?_ | refine zL3 ?_ | refine zLp ?_) | refine zM ?_ | (refine zkF ?_; first | refine zF1 ?_ | refine zF2 ?_ | refine zF3 ?_) | refine zA ?_ | (refine zkB ?_; first | refine zC5 ?_ | refine zC6 ?_ | refine zC1 ?_ | refine zC2 ?_ | refine zC3 ?_ | refine zC4 ?_ | refine zS5 ?_ | refine zS6 ?_ | refine zS1 ?_ | refine zS2 ?_ | refine zS3 ?_ | refine zS4 ?_ | refine zInc ?_ | refine zQ1 ?_ | refine zQ2 ?_ | refine zQ3 ?_ | refine zQ4 ?_ | refine zQ5 ?_ | refine zQ6 ?_) | (refine zkI ?_; first | refine zN1 (fun hlen => ?_) | refine zN2 (fun hlen => ?_) | refine zN3 ?_ | refine zN4 ?_ | refine zAp (fun _ => ?_)) | refine zS ?_ | refine zAl (fun _ => ?_) | refine zBx (fun _ => ?_) | refine zPt ?_ | refine zPf ?_ | refine zE ?_ | refine zEA ?_ | refine zNot ?_ | refine zBd ?_ | refine zBs ?_ | refine zFn ?_ | refine zK1 ?_ | refine zK2 ?_)
    apply w_l; (focus exact rfl); (focus exact rfl); (first | (refine zkL ?_; first | refine zL1 ?_ | refine zL2 ?_ | refine zL3 ?_ | refine zLp ?_) | refine zM ?_ | (refine zkF ?_; first | refine zF1 ?_ | refine zF2 ?_ | refine zF3 ?_) | refine zA ?_ | (refine zkB ?_; first | refine zC5 ?_ | refine zC6 ?_ | refine zC1 ?_ | refine zC2 ?_ | refine zC3 ?_ | refine zC4 ?_ | refine zS5 ?_ | refine zS6 ?_ | refine zS1 ?_ | refine zS2 ?_ | refine zS3 ?_ | refine zS4 ?_ | refine zInc ?_ | refine zQ1 ?_ | refine zQ2 ?_ | refine zQ3 ?_ | refine zQ4 ?_ | refine zQ5 ?_ | refine zQ6 ?_) | (refine zkI ?_; first | refine zN1 (fun hlen => ?_) | refine zN2 (fun hlen => ?_) | refine zN3 ?_ | refine zN4 ?_ | refine zAp (fun _ => ?_)) | refine zS ?_ | refine zAl (fun _ => ?_) | refine zBx (fun _ => ?_) | refine zPt ?_ | refine zPf ?_ | refine zE ?_ | refine zEA ?_ | refine zNot ?_ | refine zBd ?_ | refine zBs ?_ | refine zFn ?_ | refine zK1 ?_ | refine zK2 ?_)
    refine gW ?_
    refine w_nil ?_
    repeat (first | refine gG ?_ | refine zN1 (fun hlen => ?_) | refine zN2 (fun hlen => ?_) | refine zSub ?_ | refine zAp (fun _ => ?_))
    first | refine zR ?_ | refine zQ ?_
    simp only [outT, Tr.row, List.nil_append, Nat.zero_add, List.length_append, List.flatMap_append]
  · have h2 : l.length ≤ k := by simpa using d2
    have hr : l.eraseIdx k = l := List.eraseIdx_of_length_le h2
    have hn : nextAt l.length k = (k : Int) - l.length := by unfold nextAt; rw [d2]; rfl
    rw [hr, hn]
    clear hr hn
    refine af_enter tok Tryd.func109 Tryd.ntmps109 Tryd.results109 rfl (by kernel_rfl) rfl rfl fun F hX => ?_
    repeat (first | refine gG ?_ | refine zN1 (fun hlen => ?_) | refine zN2 (fun hlen => ?_) | refine zSub ?_ | refine zAp (fun _ => ?_))
    first | refine zR ?_ | refine zQ ?_
    rfl
set_option maxRecDepth 100000 in
set_option maxHeartbeats 4000000 in
theorem step3_ag (b1 b2 : Nat) (t0 t1 t2 t3 t5 t6 t7 : T) (l : List Tr) (k : Nat) (hl : l.length ≤ 1048576) (hk : k ≤ 1099511627776) : AG Tryd.prog 108 [.ptr 0 b1 0, .ptr 1 b2 0] [.box b1 29 [.c t0, .c t1, .c t2, .c t3, .c (Tr.row l), .c t5, .c t6, .c t7], .box b2 3 [.c (.lit (.int .i64 (k : Nat)))]]
    (fun r hs => r = .tup [] ∧ hs = [.box b1 29 [.c t0, .c t1, .c t2, .c t3, .c (Tr.row (l.eraseIdx k)), .c t5, .c t6, .c t7], .box b2 3 [.c (.lit (.int .i64 (nextAt l.length k)))]]) := by
  have hc := withoutTr_af l k hl hk
  refine ag_enter 2 tok Tryd.func108 Tryd.ntmps108 Tryd.results108 rfl (by kernel_rfl) rfl fun F => ?_
  repeat (first | refine gG ?_)
  refine zCall (hc) ?_
  rintro _ rfl
  repeat (first | refine gG ?_)
  refine zG ?_
  exact ⟨rfl, rfl⟩
set_option maxRecDepth 100000 in
set_option maxHeartbeats 4000000 in
theorem withoutIm_af (l : List Im) (k : Nat) (hl : l.length ≤ 1048576) (hk : k ≤ 1099511627776) : AF Tryd.prog 111 [Im.row l, .lit (.int .i64 (k : Nat))] (· = .tup [Im.row (l.eraseIdx k), .lit (.int .i64 (nextAt l.length k))]) := by
  have d1 : decide (((k : Nat) : Int) < 0) = false := decide_eq_false (by omega)
  cases d2 : decide (((l.length : Nat) : Int) ≤ ((k : Nat) : Int))
  · have h2 : k < l.length := by simpa using d2
    have hA : (l.take k).length ≤ 1048576 := by rw [List.length_take]; omega
    have hB : (l.drop (k + 1)).length ≤ 1048576 := by rw [List.length_drop]; omega
    have hr : l.eraseIdx k = l.take k ++ l.drop (k + 1) := List.eraseIdx_eq_take_drop_succ l k
    have hn : nextAt l.length k = -1 := by unfold nextAt; rw [d2]; rfl
    rw [hr, hn]
    clear hr hn
    refine af_enter tok Tryd.func111 Tryd.ntmps111 Tryd.results111 rfl (by kernel_rfl) rfl rfl fun F hX => ?_
    repeat (first | refine gG ?_ | refine zN1 (fun hlen => ?_) | refine zN2 (fun hlen => ?_) | refine zSub ?_ | refine zAp (fun _ => ?_))
    refine ac_draw [2, 0, 0, 0, 2, 0, 0, 0, 0, 2, 1, 1] [1, 2, 3, 5, 6, 7, 8, 0, 4, 9, 10, 11] (by kernel_rfl) (by kernel_rfl) ?_
    refine gW ?_
    apply w_p; (focus exact rfl); (focus exact rfl); focus (intro _; (refine zPhf (f := Im.ts) (l := l) k (Nat.le_of_lt h2) Im.ts_len ?_); exact det_refl)
    refine gW ?_
    apply w_p; (focus exact rfl); (focus exact rfl); focus (intro _; (refine zPlf (f := Im.ts) (l := l) (k + 1) h2 Im.ts_len ?_); exact det_refl)
    apply w_l; (focus exact rfl); (focus exact rfl); (refine zBo (fun _ => ?_))
    apply w_l; (focus exact rfl); (focus exact rfl); (first | (refine zkL ?_; first | refine zL1 ?_ | refine zL2 ?_ | refine zL3 ?_ | refine zLp ?_) | refine zM ?_ | (refine zkF ?_; first | refine zF1 ?_ | refine zF2 ?_ | refine zF3 ?_) | refine zA ?_ | (refine zkB ?_; first | refine zC5 ?_ | refine zC6 ?_ | refine zC1 ?_ | refine zC2 ?_ | refine zC3 ?_ | refine zC4 ?_ | refine zS5 ?_ | refine zS6 ?_ | refine zS1 ?_ | refine zS2 ?_ | refine zS3 ?_ | refine zS4 ?_ | refine zInc ?_ | refine zQ1 ?_ | refine zQ2 ?_ | refine zQ3 ?_ | refine zQ4 ?_ | refine zQ5 ?_ | refine zQ6 ?_) | (refine zkI ?_; first | refine zN1 (fun hlen => ?_) | refine zN2 (fun hlen => ?_) | refine zN3 ?_ | refine zN4 ?_ | refine zAp (fun _ => ?_)) | refine zS ?_ | refine zAl (fun _ => ?_) | refine zBx (fun _ => ?_) | refine zPt ?_ | refine zPf ?_ | refine zE ?_ | refine zEA ?_ | refine zNot ?_ | refine zBd ?_ | refine zBs ?_ | refine zFn ?_ | refine zK1 ?_ | refine zK2 ?_)
    apply w_l; (focus exact rfl); (focus exact rfl); (first | (refine zkL ?_; first | refine zL1 ?_ | refine zL2 ?_ | refine zL3 ?_ | refine zLp ?_) | refine zM ?_ | (refine zkF ?_; first | refine zF1 ?_ | refine zF2 ?_ | refine zF3 ?_) | refine zA ?_ | (refine zkB ?_; first | refine zC5 ?_ | refine zC6 ?_ | refine zC1 ?_ | refine zC2 ?_ | refine zC3 ?_ | refine zC4 ?_ | refine zS5 ?_ | refine zS6 ?_ | refine zS1 ?_ | refine zS2 ?_ | refine zS3 ?_ | refine zS4 ?_ | refine zInc ?_ | refine zQ1 ?_ | refine zQ2 ?_ | refine zQ3 ?_ | refine zQ4 ?_ | refine zQ5 ?_ | refine zQ6 ?_) | (refine zkI ?_; first | refine zN1 (fun hlen => ?_) | refine zN2 (fun hlen => ?_) | refine zN3 ?_ | refine zN4 ?_ | refine zAp (fun _ => ?_)) | refine zS ?_ | refine zAl (fun _ => ?_) | refine zBx (fun _ => ?_) | refine zPt ?_ | refine zPf ?_ | refine zE ?_ | refine zEA ?_ | refine zNot ?_ | refine zBd ?_ | refine zBs ?_ | refine zFn ?_ | refine zK1 ?_ | refine zK2 ?_)
    refine gW ?_
    refine w_nil ?_
    repeat (first | refine gG ?_ | refine zN1 (fun hlen => ?_) | refine zN2 (fun hlen => ?_) | refine zSub ?_ | refine zAp (fun _ => ?_))
    first | refine zR ?_ | refine zQ ?_
    simp only [outT, Im.row, List.nil_append, Nat.zero_add, List.length_append, List.flatMap_append]
  · have h2 : l.length ≤ k := by simpa using d2
    have hr : l.eraseIdx k = l := List.eraseIdx_of_length_le h2
    have hn : nextAt l.length k = (k : Int) - l.length := by unfold nextAt; rw [d2]; rfl
    rw [hr, hn]
    clear hr hn
    refine af_enter tok Tryd.func111 Tryd.ntmps111 Tryd.results111 rfl (by kernel_rfl) rfl rfl fun F hX => ?_
    repeat (first | refine gG ?_ | refine zN1 (fun hlen => ?_) | refine zN2 (fun hlen => ?_) | refine zSub ?_ | refine zAp (fun _ => ?_))
    first | refine zR ?_ | refine zQ ?_
    rfl
set_option maxRecDepth 100000 in
set_option maxHeartbeats 4000000 in
theorem step4_ag (b1 b2 : Nat) (t0 t1 t2 t3 t4 t6 t7 : T) (l : List Im) (k : Nat) (hl : l.length ≤ 1048576) (hk : k ≤ 1099511627776) : AG Tryd.prog 110 [.ptr 0 b1 0, .ptr 1 b2 0] [.box b1 29 [.c t0, .c t1, .c t2, .c t3, .c t4, .c (Im.row l), .c t6, .c t7], .box b2 3 [.c (.lit (.int .i64 (k : Nat)))]]
    (fun r hs => r = .tup [] ∧ hs = [.box b1 29 [.c t0, .c t1, .c t2, .c t3, .c t4, .c (Im.row (l.eraseIdx k)), .c t6, .c t7], .box b2 3 [.c (.lit (.int .i64 (nextAt l.length k)))]]) := by
  have hc := withoutIm_af l k hl hk
  refine ag_enter 2 tok Tryd.func110 Tryd.ntmps110 Tryd.results110 rfl (by kernel_rfl) rfl fun F => ?_
  repeat (first | refine gG ?_)
  refine zCall (hc) ?_
  rintro _ rfl
  repeat (first | refine gG ?_)
  refine zG ?_
  exact ⟨rfl, rfl⟩
set_option maxRecDepth 100000 in
set_option maxHeartbeats 4000000 in
theorem withoutFu_af (l : List Fu) (k : Nat) (hl : l.length ≤ 1048576) (hk : k ≤ 1099511627776) : AF Tryd.prog 113 [Fu.row l, .lit (.int .i64 (k : Nat))] (· = .tup [Fu.row (l.eraseIdx k), .lit (.int .i64 (nextAt l.length k))]) := by
  have d1 : decide (((k : Nat) : Int) < 0) = false := decide_eq_false (by omega)
  cases d2 : decide (((l.length : Nat) : Int) ≤ ((k : Nat) : Int))
  · have h2 : k < l.length := by simpa using d2
    have hA : (l.take k).length ≤ 1048576 := by rw [List.length_take]; omega
    have hB : (l.drop (k + 1)).length ≤ 1048576 := by rw [List.length_drop]; omega
    have hr : l.eraseIdx k = l.take k ++ l.drop (k + 1) := List.eraseIdx_eq_take_drop_succ l k
    have hn : nextAt l.length k = -1 := by unfold nextAt; rw [d2]; rfl
    rw [hr, hn]
    clear hr hn
    refine af_enter tok Tryd.func113 Tryd.ntmps113 Tryd.results113 rfl (by kernel_rfl) rfl rfl fun F hX => ?_
    repeat (first | refine gG ?_ | refine zN1 (fun hlen => ?_) | refine zN2 (fun hlen => ?_) | refine zSub ?_ | refine zAp (fun _ => ?_))
    refine ac_draw [2, 0, 0, 0, 2, 0, 0, 0, 0, 2, 1, 1] [1, 2, 3, 5, 6, 7, 8, 0, 4, 9, 10, 11] (by kernel_rfl) (by kernel_rfl) ?_
    refine gW ?_
    apply w_p; (focus exact rfl); (focus exact rfl); focus (intro _; (refine zPhf (f := Fu.ts) (l := l) k (Nat.le_of_lt h2) Fu.ts_len ?_); exact det_refl)
    refine gW ?_
    apply w_p; (focus exact rfl); (focus exact rfl); focus (intro _; (refine zPlf (f := Fu.ts) (l := l) (k + 1) h2 Fu.ts_len ?_); exact det_refl)
    apply w_l; (focus exact rfl); (focus exact rfl); (refine zBo (fun _ => ?_))
    apply w_l; (focus exact rfl); (focus exact rfl); (first | (refine zkL ?_; first | refine zL1 ?_ | refine zL2 ?_ | refine zL3 ?_ | refine zLp ?_) | refine zM ?_ | (refine zkF ?_; first | refine zF1 ?_ | refine zF2 ?_ | refine zF3 ?_) | refine zA ?_ | (refine zkB ?_; first | refine zC5 ?_ | refine zC6 ?_ | refine zC1 ?_ | refine zC2 ?_ | refine zC3 ?_ | refine zC4 ?_ | refine zS5 ?_ | refine zS6 ?_ | refine zS1 ?_ | refine zS2 ?_ | refine zS3 ?_ | refine zS4 ?_ | refine zInc ?_ | refine zQ1 ?_ | refine zQ2 ?_ | refine zQ3 ?_ | refine zQ4 ?_ | refine zQ5 ?_ | refine zQ6 ?_) | (refine zkI ?_; first | refine zN1 (fun hlen => ?_) | refine zN2 (fun hlen => ?_) | refine zN3 ?_ | refine zN4 ?_ | refine zAp (fun _ => ?_)) | refine zS ?_ | refine zAl (fun _ => ?_) | refine zBx (fun _ => ?_) | refine zPt ?_ | refine zPf ?_ | refine zE ?_ | refine zEA ?_ | refine zNot ?_ | refine zBd ?_ | refine zBs ?_ | refine zFn ?_ | refine zK1 ?_ | refine zK2 ?_)
    apply w_l; (focus exact rfl); (focus exact rfl); (first | (refine zkL ?_; first | refine zL1 ?_ | refine zL2 ?_ | refine zL3 ?_ | refine zLp ?_) | refine zM ?_ | (refine zkF ?_; first | refine zF1 ?_ | refine zF2 ?_ | refine zF3 ?_) | refine zA ?_ | (refine zkB ?_; first | refine zC5 ?_ | refine zC6 ?_ | refine zC1 ?_ | refine zC2 ?_ | refine zC3 ?_ | refine zC4 ?_ | refine zS5 ?_ | refine zS6 ?_ | refine zS1 ?_ | refine zS2 ?_ | refine zS3 ?_ | refine zS4 ?_ | refine zInc ?_ | refine zQ1 ?_ | refine zQ2 ?_ | refine zQ3 ?_ | refine zQ4 ?_ | refine zQ5 ?_ | refine zQ6 ?_) | (refine zkI ?_; first | refine zN1 (fun hlen => ?_) | refine zN2 (fun hlen => ?_) | refine zN3 ?_ | refine zN4 ?_ | refine zAp (fun _ => ?_)) | refine zS ?_ | refine zAl (fun _ => ?_) | refine zBx (fun _ => ?_) | refine zPt ?_ | refine zPf ?_ | refine zE ?_ | refine zEA ?_ | refine zNot ?_ | refine zBd ?_ | refine zBs ?_ | refine zFn ?_ | refine zK1 ?_ | refine zK2 ?_)
    refine gW ?_
    refine w_nil ?_
    repeat (first | refine gG ?_ | refine zN1 (fun hlen => ?_) | refine zN2 (fun hlen => ?_) | refine zSub ?_ | refine zAp (fun _ => ?_))
    first | refine zR ?_ | refine zQ ?_
    simp only [outT, Fu.row, List.nil_append, Nat.zero_add, List.length_append, List.flatMap_append]
  · have h2 : l.length ≤ k := by simpa using d2
    have hr : l.eraseIdx k = l := List.eraseIdx_of_length_le h2
    have hn : nextAt l.length k = (k : Int) - l.length := by unfold nextAt; rw [d2]; rfl
    rw [hr, hn]
    clear hr hn
    refine af_enter tok Tryd.func113 Tryd.ntmps113 Tryd.results113 rfl (by kernel_rfl) rfl rfl fun F hX => ?_
    repeat (first | refine gG ?_ | refine zN1 (fun hlen => ?_) | refine zN2 (fun hlen => ?_) | refine zSub ?_ | refine zAp (fun _ => ?_))
    first | refine zR ?_ | refine zQ ?_
    rfl
set_option maxRecDepth 100000 in
set_option maxHeartbeats 4000000 in
theorem step5_ag (b1 b2 : Nat) (t0 t1 t2 t3 t4 t5 t7 : T) (l : List Fu) (k : Nat) (hl : l.length ≤ 1048576) (hk : k ≤ 1099511627776) : AG Tryd.prog 112 [.ptr 0 b1 0, .ptr 1 b2 0] [.box b1 29 [.c t0, .c t1, .c t2, .c t3, .c t4, .c t5, .c (Fu.row l), .c t7], .box b2 3 [.c (.lit (.int .i64 (k : Nat)))]]
    (fun r hs => r = .tup [] ∧ hs = [.box b1 29 [.c t0, .c t1, .c t2, .c t3, .c t4, .c t5, .c (Fu.row (l.eraseIdx k)), .c t7], .box b2 3 [.c (.lit (.int .i64 (nextAt l.length k)))]]) := by
  have hc := withoutFu_af l k hl hk
  refine ag_enter 2 tok Tryd.func112 Tryd.ntmps112 Tryd.results112 rfl (by kernel_rfl) rfl fun F => ?_
  repeat (first | refine gG ?_)
  refine zCall (hc) ?_
  rintro _ rfl
  repeat (first | refine gG ?_)
  refine zG ?_
  exact ⟨rfl, rfl⟩
set_option maxRecDepth 100000 in
set_option maxHeartbeats 4000000 in
theorem withoutAc_af (l : List Ac) (k : Nat) (hl : l.length ≤ 1048576) (hk : k ≤ 1099511627776) : AF Tryd.prog 115 [Ac.row l, .lit (.int .i64 (k : Nat))] (· = .tup [Ac.row (l.eraseIdx k), .lit (.int .i64 (nextAt l.length k))]) := by
  have d1 : decide (((k : Nat) : Int) < 0) = false := decide_eq_false (by omega)
  cases d2 : decide (((l.length : Nat) : Int) ≤ ((k : Nat) : Int))
  · have h2 : k < l.length := by simpa using d2
    have hA : (l.take k).length ≤ 1048576 := by rw [List.length_take]; omega
    have hB : (l.drop (k + 1)).length ≤ 1048576 := by rw [List.length_drop]; omega
    have hr : l.eraseIdx k = l.take k ++ l.drop (k + 1) := List.eraseIdx_eq_take_drop_succ l k
    have hn : nextAt l.length k = -1 := by unfold nextAt; rw [d2]; rfl
    rw [hr, hn]
    clear hr hn
    refine af_enter tok Tryd.func115 Tryd.ntmps115 Tryd.results115 rfl (by kernel_rfl) rfl rfl fun F hX => ?_
    repeat (first | refine gG ?_ | refine zN1 (fun hlen => ?_) | refine zN2 (fun hlen => ?_) | refine zSub ?_ | refine zAp (fun _ => ?_))
    refine ac_draw [2, 0, 0, 0, 2, 0, 0, 0, 0, 2, 1, 1] [1, 2, 3, 5, 6, 7, 8, 0, 4, 9, 10, 11] (by kernel_rfl) (by kernel_rfl) ?_
    refine gW ?_
    apply w_p; (focus exact rfl); (focus exact rfl); focus (intro _; (refine zPhf (f := Ac.ts) (l := l) k (Nat.le_of_lt h2) Ac.ts_len ?_); exact det_refl)
    refine gW ?_
    apply w_p; (focus exact rfl); (focus exact rfl); focus (intro _; (refine zPlf (f := Ac.ts) (l := l) (k + 1) h2 Ac.ts_len ?_); exact det_refl)
    apply w_l; (focus exact rfl); (focus exact rfl); (refine zBo (fun _ => ?_))
    apply w_l; (focus exact rfl); (focus exact rfl); (first | (refine zkL ?_; first | refine zL1 ?_ | refine zL2 ?_ | refine zL3 ?_ | refine zLp ?_) | refine zM ?_ | (refine zkF ?_; first | refine zF1 ?_ | refine zF2 ?_ | refine zF3 ?_) | refine zA ?_ | (refine zkB ?_; first | refine zC5 ?_ | refine zC6 ?_ | refine zC1 ?_ | refine zC2 ?_ | refine zC3 ?_ | refine zC4 ?_ | refine zS5 ?_ | refine zS6 ?_ | refine zS1 ?_ | refine zS2 ?_ | refine zS3 ?_ | refine zS4 ?_ | refine zInc ?_ | refine zQ1 ?_ | refine zQ2 ?_ | refine zQ3 ?_ | refine zQ4 ?_ | refine zQ5 ?_ | refine zQ6 ?_) | (refine zkI ?_; first | refine zN1 (fun hlen => ?_) | refine zN2 (fun hlen => ?_) | refine zN3 ?_ | refine zN4 ?_ | refine zAp (fun _ => ?_)) | refine zS ?_ | refine zAl (fun _ => ?_) | refine zBx (fun _ => ?_) | refine zPt ?_ | refine zPf ?_ | refine zE ?_ | refine zEA ?_ | refine zNot ?_ | refine zBd ?_ | refine zBs ?_ | refine zFn ?_ | refine zK1 ?_ | refine zK2 ?_)
    apply w_l; (focus exact rfl); (focus exact rfl); (first | (refine zkL ?_; first | refine zL1 ?_ | refine zL2 ?_ | refine zL3 ?_ | refine zLp ?_) | refine zM ?_ | (refine zkF ?_; first | refine zF1 ?_ | refine zF2 ?_ | refine zF3 ?_) | refine zA ?_ | (refine zkB ?_; first | refine zC5 ?_ | refine zC6 ?_ | refine zC1 ?_ | refine zC2 ?_ | refine zC3 ?_ | refine zC4 ?_ | refine zS5 ?_ | refine zS6 ?_ | refine zS1 ?_ | refine zS2 ?_ | refine zS3 ?_ | refine zS4 ?_ | refine zInc ?_ | refine zQ1 ?_ | refine zQ2 ?_ | refine zQ3 ?_ | refine zQ4 ?_ | refine zQ5 ?_ | refine zQ6 ?_) | (refine zkI ?_; first | refine zN1 (fun hlen => ?_) | refine zN2 (fun hlen => ?_) | refine zN3 ?_ | refine zN4 ?_ | refine zAp (fun _ => ?_)) | refine zS ?_ | refine zAl (fun _ => ?_) | refine zBx (fun _ => ?_) | refine zPt ?_ | refine zPf ?_ | refine zE ?_ | refine zEA ?_ | refine zNot ?_ | refine zBd ?_ | refine zBs ?_ | refine zFn ?_ | refine zK1 ?_ | refine zK2 ?_)
    refine gW ?_
    refine w_nil ?_
    repeat (first | refine gG ?_ | refine zN1 (fun hlen => ?_) | refine zN2 (fun hlen => ?_) | refine zSub ?_ | refine zAp (fun _ => ?_))
    first | refine zR ?_ | refine zQ ?_
    simp only [outT, Ac.row, List.nil_append, Nat.zero_add, List.length_append, List.flatMap_append]
  · have h2 : l.length ≤ k := by simpa using d2
    have hr : l.eraseIdx k = l := List.eraseIdx_of_length_le h2
    have hn : nextAt l.length k = (k : Int) - l.length := by unfold nextAt; rw [d2]; rfl
    rw [hr, hn]
    clear hr hn
    refine af_enter tok Tryd.func115 Tryd.ntmps115 Tryd.results115 rfl (by kernel_rfl) rfl rfl fun F hX => ?_
    repeat (first | refine gG ?_ | refine zN1 (fun hlen => ?_) | refine zN2 (fun hlen => ?_) | refine zSub ?_ | refine zAp (fun _ => ?_))
    first | refine zR ?_ | refine zQ ?_
    rfl
set_option maxRecDepth 100000 in
set_option maxHeartbeats 4000000 in
theorem step6_ag (b1 b2 : Nat) (t0 t1 t2 t3 t4 t5 t6 : T) (l : List Ac) (k : Nat) (hl : l.length ≤ 1048576) (hk : k ≤ 1099511627776) : AG Tryd.prog 114 [.ptr 0 b1 0, .ptr 1 b2 0] [.box b1 29 [.c t0, .c t1, .c t2, .c t3, .c t4, .c t5, .c t6, .c (Ac.row l)], .box b2 3 [.c (.lit (.int .i64 (k : Nat)))]]
    (fun r hs => r = .tup [] ∧ hs = [.box b1 29 [.c t0, .c t1, .c t2, .c t3, .c t4, .c t5, .c t6, .c (Ac.row (l.eraseIdx k))], .box b2 3 [.c (.lit (.int .i64 (nextAt l.length k)))]]) := by
  have hc := withoutAc_af l k hl hk
  refine ag_enter 2 tok Tryd.func114 Tryd.ntmps114 Tryd.results114 rfl (by kernel_rfl) rfl fun F => ?_
  repeat (first | refine gG ?_)
  refine zCall (hc) ?_
  rintro _ rfl
  repeat (first | refine gG ?_)
  refine zG ?_
  exact ⟨rfl, rfl⟩
end Go.Proofs.YtllgibfmddihgaaDoor
namespace Go.Proofs.YtllgibfmddihgaaDoor
open Go.RowKit
section
variable {P : Program} {F : Frm} {τ : Nat → AV} {hp : List Blk} {N : Nat} {Q : Exit → AS → Prop} {id : Nat} {l : List Oper}
/-- of the slots only those of l are kept -/
theorem wk_keep {l : List (Nat × AV)} (hl : HasT τ l) : Wk F ⟨τ, hp, N⟩ ⟨atT (fun _ => .junk) [] l, hp, N⟩ := by
  intro M a w hr
  refine ⟨M, fun i => ?_, hr.size, hr.defers, hr.heap⟩
  have h0 := hr.tmps i
  dsimp only at h0 ⊢
  have key : ∀ (l : List (Nat × AV)) (v : AV), HasT τ l → lkp i l = some v → τ i = v := by
    intro l
    induction l with
    | nil => intro v _ h; cases h
    | cons p l ih =>
      obtain ⟨d, u⟩ := p
      intro v hh h
      unfold lkp at h
      cases hc : Nat.beq i d with
      | true =>
        rw [hc] at h
        simp only [cond_true, Option.some.injEq] at h
        rw [Nat.eq_of_beq_eq_true hc, hh.1, h]
      | false =>
        rw [hc] at h
        exact ih v hh.2 h
  unfold atT
  split
  · rename_i v hv
    rw [← key l v hl hv]
    exact h0
  · cases memB i [] <;> simp only [cond, RA]
theorem x_keep {c : Go.Code} (l : List (Nat × AV)) (hl : HasT τ l) (hq : AC P F c Q ⟨atT (fun _ => .junk) [] l, hp, N⟩) : AC P F c Q ⟨τ, hp, N⟩ := ac_wk (wk_keep hl) hq
end
section
variable {P : Program} {F : Frm} {d : Option Tmp} {ty : TypeId} {pos : String} {aft : Array Edge} {g : Option (Nat × Bool)} {ρ : Operand → AV} {hp : List Blk} {K : AV → List Blk → Prop}
/-- the sum of two counts -/
theorem zAn {t t' : TypeId} {x y : Operand} {a b : Nat} (h : K (.c (.lit (.int .i64 ((a + b : Nat) : Int)))) hp) (hx : ρ x = .c (.lit (.int .i64 (a : Nat))) := by exact rfl) (hy : ρ y = .c (.lit (.int .i64 (b : Nat))) := by exact rfl) (hb : a + b ≤ 9223372036854775807 := by first | omega | (dsimp only at *; omega)) : LO P F ⟨d, .binOp .add t x y t', ty, pos, aft, g⟩ ρ hp K :=
  lo_add hx hy (by rw [IntWalk.i64_in _ (by omega)]; omega) h
end
/-- the driver, for sums of counts -/
theorem gA {G G' : Prop} (h : G') (e : Hold G' → G := by
    intro h
    first | refine zNil ?_ | refine zOp ?_ | refine zOpn ?_ | refine zNo ?_ | refine zNon ?_ | refine zUn ?_ | refine zUnn ?_ | refine zYes ?_ | refine zYesn ?_ | (refine zkL ?_; first | refine zL1 ?_ | refine zL2 ?_ | refine zL3 ?_ | refine zLp ?_) | refine zM ?_ | (refine zkF ?_; first | refine zF1 ?_ | refine zF2 ?_ | refine zF3 ?_) | refine zA ?_ | (refine zkB ?_; first | refine zC5 ?_ | refine zC6 ?_ | refine zC1 ?_ | refine zC2 ?_ | refine zC3 ?_ | refine zC4 ?_ | refine zS5 ?_ | refine zS6 ?_ | refine zS1 ?_ | refine zS2 ?_ | refine zS3 ?_ | refine zS4 ?_ | refine zAn ?_ | refine zQ1 ?_ | refine zQ2 ?_ | refine zQ3 ?_ | refine zQ4 ?_ | refine zQ5 ?_ | refine zQ6 ?_) | (refine zkI ?_; first | refine zN3 ?_ | refine zN4 ?_) | refine zS ?_ | refine zPt ?_ | refine zPf ?_ | refine zE ?_ | refine zEA ?_ | refine zNot ?_ | refine zBd ?_ | refine zFn ?_ | refine zK1 ?_ | refine zK2 ?_ | refine zBs ?_ | refine ac_seq ?_ | refine ac_block ?_ | refine ac_region ?_ | refine ac_skip ?_ | refine ac_exit ?_ | refine ac_ret ?_ | refine zT ?_ | refine zF ?_
    repeat (first | refine zNil ?_ | refine zOp ?_ | refine zOpn ?_ | refine zNo ?_ | refine zNon ?_ | refine zUn ?_ | refine zUnn ?_ | refine zYes ?_ | refine zYesn ?_ | (refine zkL ?_; first | refine zL1 ?_ | refine zL2 ?_ | refine zL3 ?_ | refine zLp ?_) | refine zM ?_ | (refine zkF ?_; first | refine zF1 ?_ | refine zF2 ?_ | refine zF3 ?_) | refine zA ?_ | (refine zkB ?_; first | refine zC5 ?_ | refine zC6 ?_ | refine zC1 ?_ | refine zC2 ?_ | refine zC3 ?_ | refine zC4 ?_ | refine zS5 ?_ | refine zS6 ?_ | refine zS1 ?_ | refine zS2 ?_ | refine zS3 ?_ | refine zS4 ?_ | refine zAn ?_ | refine zQ1 ?_ | refine zQ2 ?_ | refine zQ3 ?_ | refine zQ4 ?_ | refine zQ5 ?_ | refine zQ6 ?_) | (refine zkI ?_; first | refine zN3 ?_ | refine zN4 ?_) | refine zS ?_ | refine zPt ?_ | refine zPf ?_ | refine zE ?_ | refine zEA ?_ | refine zNot ?_ | refine zBd ?_ | refine zFn ?_ | refine zK1 ?_ | refine zK2 ?_ | refine zBs ?_ | refine ac_seq ?_ | refine ac_block ?_ | refine ac_region ?_ | refine ac_skip ?_ | refine ac_exit ?_ | refine ac_ret ?_ | refine zT ?_ | refine zF ?_)
    exact h.out) : G := e ⟨h⟩
end Go.Proofs.YtllgibfmddihgaaDoor
namespace Go.Proofs.YtllgibfmddihgaaDoor
open Go.RowKit
def Pr.parts (p : Pr) : Nat := p.uses.length + p.datas.length + p.traits.length + p.impls.length + p.funcs.length + p.actors.length
set_option maxRecDepth 100000 in
set_option maxHeartbeats 4000000 in
theorem excParts_af (p : Pr) (hp : p.parts ≤ 1048576) : AF Tryd.prog 17 [p.t] (· = .lit (.int .i64 (p.parts : Nat))) := by
  obtain ⟨nm, vr, us, ds, trs, ims, fus, acs⟩ := p
  simp only [Pr.parts] at hp ⊢
  refine af_enter tok Tryd.func17 Tryd.ntmps17 Tryd.results17 rfl (by kernel_rfl) rfl rfl fun F hX => ?_
  repeat (first | refine gA ?_ | refine zN1 (fun hlen => ?_) | refine zN2 (fun hlen => ?_) | refine zBf ?_)
  first | refine zR ?_ | refine zQ ?_
  rfl
def Pr.zero : Pr := ⟨⟨#[]⟩, 0, [], [], [], [], [], []⟩
def Pr.sans (p : Pr) (k : Int) : Pr := ⟨p.name, p.version, cutl p.uses k, cutl p.datas (k - p.uses.length), cutl p.traits (k - p.uses.length - p.datas.length), cutl p.impls (k - p.uses.length - p.datas.length - p.traits.length), cutl p.funcs (k - p.uses.length - p.datas.length - p.traits.length - p.impls.length), cutl p.actors (k - p.uses.length - p.datas.length - p.traits.length - p.impls.length - p.funcs.length)⟩
theorem cutl_neg {α : Type} (l : List α) {i : Int} (h : i < 0) : cutl l i = l := by unfold cutl; rw [decide_eq_true h]; rfl
theorem cutl_big {α : Type} (l : List α) {i : Int} (h : (l.length : Int) ≤ i) : cutl l i = l := by unfold cutl; rw [decide_eq_false (show ¬ i < 0 by omega)]; exact List.eraseIdx_of_length_le (by omega)
theorem cutl_nat {α : Type} (l : List α) {i : Int} (j : Nat) (h : i = (j : Int)) : cutl l i = l.eraseIdx j := by subst h; unfold cutl; rw [decide_eq_false (show ¬ ((j : Int)) < 0 by omega)]; rfl
def ac6 (a b c d e f : Nat) : Nat → Nat
  | 0 => 0
  | 1 => a
  | 2 => a + b
  | 3 => a + b + c
  | 4 => a + b + c + d
  | 5 => a + b + c + d + e
  | _ => a + b + c + d + e + f
set_option maxRecDepth 100000 in
set_option maxHeartbeats 16000000 in
theorem without_af (p : Pr) (k : Nat) (hp : p.parts ≤ 1048576) (hk : k < p.parts) : AF Tryd.prog 16 [p.t, .lit (.int .i64 (k : Nat))] (· = .tup [(p.sans k).t, .lit (.int .i64 0)]) := by
  have hpa := excParts_af p hp
  have d0 : decide (((k : Nat) : Int) < 0) = false := decide_eq_false (by omega)
  have d1 : decide (((p.parts : Nat) : Int) ≤ ((k : Nat) : Int)) = false := decide_eq_false (by omega)
  generalize hpp : p.parts = pp at *
  obtain ⟨nm, vr, us, ds, trs, ims, fus, acs⟩ := p
  simp only [Pr.parts] at hpp
  simp only [Pr.sans]
  generalize ha : us.length = na
  generalize hb : ds.length = nb
  generalize hc : trs.length = nc
  generalize hd : ims.length = nd
  generalize he : fus.length = ne
  generalize hf : acs.length = nf
  rw [ha, hb, hc, hd, he, hf] at hpp
  refine af_enter tok Tryd.func16 Tryd.ntmps16 Tryd.results16 rfl (by kernel_rfl) rfl rfl fun F hX => ?_
  repeat (first | refine gG ?_ | refine zN1 (fun hlen => ?_) | refine zN2 (fun hlen => ?_) | refine zAl (fun _ => ?_) | refine zBx (fun _ => ?_))
  rename_i b1 b2 b3
  refine ac_draw [1, 1, 1, 1, 1, 1, 1, 1] [0, 1, 2, 3, 4, 5, 6, 7] (by kernel_rfl) (by kernel_rfl) ?_
  refine gW ?_
  try (first | (apply w_un; (focus exact rfl); (focus exact rfl); (focus exact rfl); (focus exact rfl)) | (apply w_no; (focus exact rfl); (focus exact rfl); (focus exact rfl); (focus exact rfl); focus (first | rfl | assumption | exact neg_t (by assumption) | exact neg_f (by assumption))) | (apply w_qg; (focus exact rfl); (focus exact rfl); (focus exact rfl); (focus exact rfl); (focus (first | rfl | assumption | exact neg_t (by assumption) | exact neg_f (by assumption))); (focus (intro _; (refine zCall hpa ?_; rintro _ rfl); exact det_refl))))
  try refine gW ?_
  refine w_nil ?_
  repeat (first | refine gX ?_ | refine zN1 (fun hlen => ?_) | refine zN2 (fun hlen => ?_) | refine zAl (fun _ => ?_) | refine zBx (fun _ => ?_))
  refine zFs ?_
  refine zBs ?_
  repeat (first | refine gG ?_ | refine zN1 (fun hlen => ?_) | refine zN2 (fun hlen => ?_) | refine zAl (fun _ => ?_) | refine zBx (fun _ => ?_))
  refine x_loop [7, 25, 26, 27, 28, 29, 30, 31, 32, 33] (fun j : Nat => [(25, .c (.lit (.int .i64 (j : Nat))))]) (fun j => [.box b1 29 [.c (.lit (.string nm)), .c (.lit (.int .i64 vr)), .c (Us.row us), .c (Da.row ds), .c (Tr.row trs), .c (Im.row ims), .c (Fu.row fus), .c (Ac.row acs)], .box b2 3 [.c (.lit (.int .i64 ((k - ac6 na nb nc nd ne nf j : Nat) : Nat)))], .box b3 29 [.c (.lit (.string ⟨#[]⟩)), .c (.lit (.int .i64 0)), .c (.lit (.slice none 0 0)), .c (.lit (.slice none 0 0)), .c (.lit (.slice none 0 0)), .c (.lit (.slice none 0 0)), .c (.lit (.slice none 0 0)), .c (.lit (.slice none 0 0))]])
    (fun j => j ≤ 6 ∧ ac6 na nb nc nd ne nf j ≤ k) (fun j => 6 - j) 0 ⟨Nat.zero_le _, Nat.zero_le _⟩ ⟨rfl, trivial⟩ rfl ?_
  rintro j ⟨hj, hjk⟩
  repeat (first | refine gG ?_ | refine zN1 (fun hlen => ?_) | refine zN2 (fun hlen => ?_) | refine zAl (fun _ => ?_) | refine zBx (fun _ => ?_))
  refine x_cond rfl (fun h => ?_) (fun h => ?_)
  rotate_left
  · exfalso
    have hj6 : j = 6 := by
      have : ¬ ((j : Nat) : Int) < 6 := by simpa using h
      omega
    subst hj6
    simp only [ac6] at hjk
    omega
  have hj' : j < 6 := by
    have : ((j : Nat) : Int) < 6 := by simpa using h
    omega
  clear h
  rcases j with _ | _ | _ | _ | _ | _ | j
  rotate_right
  · omega
  · simp only [ac6] at hjk
    have hs := step1_ag b1 b2 (.lit (.string nm)) (.lit (.int .i64 vr)) (Da.row ds) (Tr.row trs) (Im.row ims) (Fu.row fus) (Ac.row acs) us (k - ac6 na nb nc nd ne nf 0) (by omega) (by omega)
    cases d : decide (((us.length : Nat) : Int) ≤ (((k - ac6 na nb nc nd ne nf 0 : Nat)) : Int))
    · rw [show nextAt us.length (k - ac6 na nb nc nd ne nf 0) = -1 by simp only [nextAt, d]; rfl] at hs
      repeat (first | refine gG ?_ | refine zN1 (fun hlen => ?_) | refine zN2 (fun hlen => ?_) | refine zAl (fun _ => ?_) | refine zBx (fun _ => ?_))
      refine zIx 0 (show 0 < 6 by omega) ?_
      repeat (first | refine gG ?_ | refine zN1 (fun hlen => ?_) | refine zN2 (fun hlen => ?_) | refine zAl (fun _ => ?_) | refine zBx (fun _ => ?_))
      refine zFo ?_
      refine zCallG [0, 1] hs ?_
      rintro _ _ ⟨rfl, rfl⟩
      refine ⟨.tup [], _, re_refl, rfl, rfl, ?_⟩
      repeat (first | refine gG ?_ | refine zN1 (fun hlen => ?_) | refine zN2 (fun hlen => ?_) | refine zAl (fun _ => ?_) | refine zBx (fun _ => ?_))
      first | refine zR ?_ | refine zQ ?_
      rw [cutl_nat us (k - ac6 na nb nc nd ne nf 0) (by simp only [ac6]; omega)]
      rw [cutl_neg ds (by simp only [ac6, decide_eq_false_iff_not] at d; omega)]
      rw [cutl_neg trs (by simp only [ac6, decide_eq_false_iff_not] at d; omega)]
      rw [cutl_neg ims (by simp only [ac6, decide_eq_false_iff_not] at d; omega)]
      rw [cutl_neg fus (by simp only [ac6, decide_eq_false_iff_not] at d; omega)]
      rw [cutl_neg acs (by simp only [ac6, decide_eq_false_iff_not] at d; omega)]
      rfl
    · have dl : us.length ≤ k - ac6 na nb nc nd ne nf 0 := by simpa using d
      have dk : ac6 na nb nc nd ne nf 1 ≤ k := by simp only [ac6] at dl ⊢; omega
      rw [List.eraseIdx_of_length_le dl, show nextAt us.length (k - ac6 na nb nc nd ne nf 0) = ((k - ac6 na nb nc nd ne nf 1 : Nat) : Int) by simp only [nextAt, d, cond]; simp only [ac6] at *; omega] at hs
      have dn : decide (((k - ac6 na nb nc nd ne nf 1 : Nat) : Int) < 0) = false := decide_eq_false (by omega)
      repeat (first | refine gG ?_ | refine zN1 (fun hlen => ?_) | refine zN2 (fun hlen => ?_) | refine zAl (fun _ => ?_) | refine zBx (fun _ => ?_))
      refine zIx 0 (show 0 < 6 by omega) ?_
      repeat (first | refine gG ?_ | refine zN1 (fun hlen => ?_) | refine zN2 (fun hlen => ?_) | refine zAl (fun _ => ?_) | refine zBx (fun _ => ?_))
      refine zFo ?_
      refine zCallG [0, 1] hs ?_
      rintro _ _ ⟨rfl, rfl⟩
      refine ⟨.tup [], _, re_refl, rfl, rfl, ?_⟩
      repeat (first | refine gG ?_ | refine zN1 (fun hlen => ?_) | refine zN2 (fun hlen => ?_) | refine zAl (fun _ => ?_) | refine zBx (fun _ => ?_))
      exact ⟨1, ⟨by omega, dk⟩, by omega, x_wkd 3 ⟨rfl, trivial⟩ rfl (by repeat (first | exact ag_refl | refine ag_upd rfl ?_ | refine ag_at rfl rfl ?_))⟩
  · simp only [ac6] at hjk
    have hs := step2_ag b1 b2 (.lit (.string nm)) (.lit (.int .i64 vr)) (Us.row us) (Tr.row trs) (Im.row ims) (Fu.row fus) (Ac.row acs) ds (k - ac6 na nb nc nd ne nf 1) (by omega) (by omega)
    cases d : decide (((ds.length : Nat) : Int) ≤ (((k - ac6 na nb nc nd ne nf 1 : Nat)) : Int))
    · rw [show nextAt ds.length (k - ac6 na nb nc nd ne nf 1) = -1 by simp only [nextAt, d]; rfl] at hs
      repeat (first | refine gG ?_ | refine zN1 (fun hlen => ?_) | refine zN2 (fun hlen => ?_) | refine zAl (fun _ => ?_) | refine zBx (fun _ => ?_))
      refine zIx 1 (show 1 < 6 by omega) ?_
      repeat (first | refine gG ?_ | refine zN1 (fun hlen => ?_) | refine zN2 (fun hlen => ?_) | refine zAl (fun _ => ?_) | refine zBx (fun _ => ?_))
      refine zFo ?_
      refine zCallG [0, 1] hs ?_
      rintro _ _ ⟨rfl, rfl⟩
      refine ⟨.tup [], _, re_refl, rfl, rfl, ?_⟩
      repeat (first | refine gG ?_ | refine zN1 (fun hlen => ?_) | refine zN2 (fun hlen => ?_) | refine zAl (fun _ => ?_) | refine zBx (fun _ => ?_))
      first | refine zR ?_ | refine zQ ?_
      rw [cutl_big us (by omega)]
      rw [cutl_nat ds (k - ac6 na nb nc nd ne nf 1) (by simp only [ac6]; omega)]
      rw [cutl_neg trs (by simp only [ac6, decide_eq_false_iff_not] at d; omega)]
      rw [cutl_neg ims (by simp only [ac6, decide_eq_false_iff_not] at d; omega)]
      rw [cutl_neg fus (by simp only [ac6, decide_eq_false_iff_not] at d; omega)]
      rw [cutl_neg acs (by simp only [ac6, decide_eq_false_iff_not] at d; omega)]
      rfl
    · have dl : ds.length ≤ k - ac6 na nb nc nd ne nf 1 := by simpa using d
      have dk : ac6 na nb nc nd ne nf 2 ≤ k := by simp only [ac6] at dl ⊢; omega
      rw [List.eraseIdx_of_length_le dl, show nextAt ds.length (k - ac6 na nb nc nd ne nf 1) = ((k - ac6 na nb nc nd ne nf 2 : Nat) : Int) by simp only [nextAt, d, cond]; simp only [ac6] at *; omega] at hs
      have dn : decide (((k - ac6 na nb nc nd ne nf 2 : Nat) : Int) < 0) = false := decide_eq_false (by omega)
      repeat (first | refine gG ?_ | refine zN1 (fun hlen => ?_) | refine zN2 (fun hlen => ?_) | refine zAl (fun _ => ?_) | refine zBx (fun _ => ?_))
      refine zIx 1 (show 1 < 6 by omega) ?_
      repeat (first | refine gG ?_ | refine zN1 (fun hlen => ?_) | refine zN2 (fun hlen => ?_) | refine zAl (fun _ => ?_) | refine zBx (fun _ => ?_))
      refine zFo ?_
      refine zCallG [0, 1] hs ?_
      rintro _ _ ⟨rfl, rfl⟩
      refine ⟨.tup [], _, re_refl, rfl, rfl, ?_⟩
      repeat (first | refine gG ?_ | refine zN1 (fun hlen => ?_) | refine zN2 (fun hlen => ?_) | refine zAl (fun _ => ?_) | refine zBx (fun _ => ?_))
      exact ⟨2, ⟨by omega, dk⟩, by omega, x_wkd 3 ⟨rfl, trivial⟩ rfl (by repeat (first | exact ag_refl | refine ag_upd rfl ?_ | refine ag_at rfl rfl ?_))⟩
  · simp only [ac6] at hjk
    have hs := step3_ag b1 b2 (.lit (.string nm)) (.lit (.int .i64 vr)) (Us.row us) (Da.row ds) (Im.row ims) (Fu.row fus) (Ac.row acs) trs (k - ac6 na nb nc nd ne nf 2) (by omega) (by omega)
    cases d : decide (((trs.length : Nat) : Int) ≤ (((k - ac6 na nb nc nd ne nf 2 : Nat)) : Int))
    · rw [show nextAt trs.length (k - ac6 na nb nc nd ne nf 2) = -1 by simp only [nextAt, d]; rfl] at hs
      repeat (first | refine gG ?_ | refine zN1 (fun hlen => ?_) | refine zN2 (fun hlen => ?_) | refine zAl (fun _ => ?_) | refine zBx (fun _ => ?_))
      refine zIx 2 (show 2 < 6 by omega) ?_
      repeat (first | refine gG ?_ | refine zN1 (fun hlen => ?_) | refine zN2 (fun hlen => ?_) | refine zAl (fun _ => ?_) | refine zBx (fun _ => ?_))
      refine zFo ?_
      refine zCallG [0, 1] hs ?_
      rintro _ _ ⟨rfl, rfl⟩
      refine ⟨.tup [], _, re_refl, rfl, rfl, ?_⟩
      repeat (first | refine gG ?_ | refine zN1 (fun hlen => ?_) | refine zN2 (fun hlen => ?_) | refine zAl (fun _ => ?_) | refine zBx (fun _ => ?_))
      first | refine zR ?_ | refine zQ ?_
      rw [cutl_big us (by omega)]
      rw [cutl_big ds (by omega)]
      rw [cutl_nat trs (k - ac6 na nb nc nd ne nf 2) (by simp only [ac6]; omega)]
      rw [cutl_neg ims (by simp only [ac6, decide_eq_false_iff_not] at d; omega)]
      rw [cutl_neg fus (by simp only [ac6, decide_eq_false_iff_not] at d; omega)]
      rw [cutl_neg acs (by simp only [ac6, decide_eq_false_iff_not] at d; omega)]
      rfl
    · have dl : trs.length ≤ k - ac6 na nb nc nd ne nf 2 := by simpa using d
      have dk : ac6 na nb nc nd ne nf 3 ≤ k := by simp only [ac6] at dl ⊢; omega
      rw [List.eraseIdx_of_length_le dl, show nextAt trs.length (k - ac6 na nb nc nd ne nf 2) = ((k - ac6 na nb nc nd ne nf 3 : Nat) : Int) by simp only [nextAt, d, cond]; simp only [ac6] at *; omega] at hs
      have dn : decide (((k - ac6 na nb nc nd ne nf 3 : Nat) : Int) < 0) = false := decide_eq_false (by omega)
      repeat (first | refine gG ?_ | refine zN1 (fun hlen => ?_) | refine zN2 (fun hlen => ?_) | refine zAl (fun _ => ?_) | refine zBx (fun _ => ?_))
      refine zIx 2 (show 2 < 6 by omega) ?_
      repeat (first | refine gG ?_ | refine zN1 (fun hlen => ?_) | refine zN2 (fun hlen => ?_) | refine zAl (fun _ => ?_) | refine zBx (fun _ => ?_))
      refine zFo ?_
      refine zCallG [0, 1] hs ?_
      rintro _ _ ⟨rfl, rfl⟩
      refine ⟨.tup [], _, re_refl, rfl, rfl, ?_⟩
      repeat (first | refine gG ?_ | refine zN1 (fun hlen => ?_) | refine zN2 (fun hlen => ?_) | refine zAl (fun _ => ?_) | refine zBx (fun _ => ?_))
      exact ⟨3, ⟨by omega, dk⟩, by omega, x_wkd 3 ⟨rfl, trivial⟩ rfl (by repeat (first | exact ag_refl | refine ag_upd rfl ?_ | refine ag_at rfl rfl ?_))⟩
  · simp only [ac6] at hjk
    have hs := step4_ag b1 b2 (.lit (.string nm)) (.lit (.int .i64 vr)) (Us.row us) (Da.row ds) (Tr.row trs) (Fu.row fus) (Ac.row acs) ims (k - ac6 na nb nc nd ne nf 3) (by omega) (by omega)
    cases d : decide (((ims.length : Nat) : Int) ≤ (((k - ac6 na nb nc nd ne nf 3 : Nat)) : Int))
    · rw [show nextAt ims.length (k - ac6 na nb nc nd ne nf 3) = -1 by simp only [nextAt, d]; rfl] at hs
      repeat (first | refine gG ?_ | refine zN1 (fun hlen => ?_) | refine zN2 (fun hlen => ?_) | refine zAl (fun _ => ?_) | refine zBx (fun _ => ?_))
      refine zIx 3 (show 3 < 6 by omega) ?_
      repeat (first | refine gG ?_ | refine zN1 (fun hlen => ?_) | refine zN2 (fun hlen => ?_) | refine zAl (fun _ => ?_) | refine zBx (fun _ => ?_))
      refine zFo ?_
      refine zCallG [0, 1] hs ?_
      rintro _ _ ⟨rfl, rfl⟩
      refine ⟨.tup [], _, re_refl, rfl, rfl, ?_⟩
      repeat (first | refine gG ?_ | refine zN1 (fun hlen => ?_) | refine zN2 (fun hlen => ?_) | refine zAl (fun _ => ?_) | refine zBx (fun _ => ?_))
      first | refine zR ?_ | refine zQ ?_
      rw [cutl_big us (by omega)]
      rw [cutl_big ds (by omega)]
      rw [cutl_big trs (by omega)]
      rw [cutl_nat ims (k - ac6 na nb nc nd ne nf 3) (by simp only [ac6]; omega)]
      rw [cutl_neg fus (by simp only [ac6, decide_eq_false_iff_not] at d; omega)]
      rw [cutl_neg acs (by simp only [ac6, decide_eq_false_iff_not] at d; omega)]
      rfl
    · have dl : ims.length ≤ k - ac6 na nb nc nd ne nf 3 := by simpa using d
      have dk : ac6 na nb nc nd ne nf 4 ≤ k := by simp only [ac6] at dl ⊢; omega
      rw [List.eraseIdx_of_length_le dl, show nextAt ims.length (k - ac6 na nb nc nd ne nf 3) = ((k - ac6 na nb nc nd ne nf 4 : Nat) : Int) by simp only [nextAt, d, cond]; simp only [ac6] at *; omega] at hs
      have dn : decide (((k - ac6 na nb nc nd ne nf 4 : Nat) : Int) < 0) = false := decide_eq_false (by omega)
      repeat (first | refine gG ?_ | refine zN1 (fun hlen => ?_) | refine zN2 (fun hlen => ?_) | refine zAl (fun _ => ?_) | refine zBx (fun _ => ?_))
      refine zIx 3 (show 3 < 6 by omega) ?_
      repeat (first | refine gG ?_ | refine zN1 (fun hlen => ?_) | refine zN2 (fun hlen => ?_) | refine zAl (fun _ => ?_) | refine zBx (fun _ => ?_))
      refine zFo ?_
      refine zCallG [0, 1] hs ?_
      rintro _ _ ⟨rfl, rfl⟩
      refine ⟨.tup [], _, re_refl, rfl, rfl, ?_⟩
      repeat (first | refine gG ?_ | refine zN1 (fun hlen => ?_) | refine zN2 (fun hlen => ?_) | refine zAl (fun _ => ?_) | refine zBx (fun _ => ?_))
      exact ⟨4, ⟨by omega, dk⟩, by omega, x_wkd 3 ⟨rfl, trivial⟩ rfl (by repeat (first | exact ag_refl | refine ag_upd rfl ?_ | refine ag_at rfl rfl ?_))⟩
  · simp only [ac6] at hjk
    have hs := step5_ag b1 b2 (.lit (.string nm)) (.lit (.int .i64 vr)) (Us.row us) (Da.row ds) (Tr.row trs) (Im.row ims) (Ac.row acs) fus (k - ac6 na nb nc nd ne nf 4) (by omega) (by omega)
    cases d : decide (((fus.length : Nat) : Int) ≤ (((k - ac6 na nb nc nd ne nf 4 : Nat)) : Int))
    · rw [show nextAt fus.length (k - ac6 na nb nc nd ne nf 4) = -1 by simp only [nextAt, d]; rfl] at hs
      repeat (first | refine gG ?_ | refine zN1 (fun hlen => ?_) | refine zN2 (fun hlen => ?_) | refine zAl (fun _ => ?_) | refine zBx (fun _ => ?_))
      refine zIx 4 (show 4 < 6 by omega) ?_
      repeat (first | refine gG ?_ | refine zN1 (fun hlen => ?_) | refine zN2 (fun hlen => ?_) | refine zAl (fun _ => ?_) | refine zBx (fun _ => ?_))
      refine zFo ?_
      refine zCallG [0, 1] hs ?_
      rintro _ _ ⟨rfl, rfl⟩
      refine ⟨.tup [], _, re_refl, rfl, rfl, ?_⟩
      repeat (first | refine gG ?_ | refine zN1 (fun hlen => ?_) | refine zN2 (fun hlen => ?_) | refine zAl (fun _ => ?_) | refine zBx (fun _ => ?_))
      first | refine zR ?_ | refine zQ ?_
      rw [cutl_big us (by omega)]
      rw [cutl_big ds (by omega)]
      rw [cutl_big trs (by omega)]
      rw [cutl_big ims (by omega)]
      rw [cutl_nat fus (k - ac6 na nb nc nd ne nf 4) (by simp only [ac6]; omega)]
      rw [cutl_neg acs (by simp only [ac6, decide_eq_false_iff_not] at d; omega)]
      rfl
    · have dl : fus.length ≤ k - ac6 na nb nc nd ne nf 4 := by simpa using d
      have dk : ac6 na nb nc nd ne nf 5 ≤ k := by simp only [ac6] at dl ⊢; omega
      rw [List.eraseIdx_of_length_le dl, show nextAt fus.length (k - ac6 na nb nc nd ne nf 4) = ((k - ac6 na nb nc nd ne nf 5 : Nat) : Int) by simp only [nextAt, d, cond]; simp only [ac6] at *; omega] at hs
      have dn : decide (((k - ac6 na nb nc nd ne nf 5 : Nat) : Int) < 0) = false := decide_eq_false (by omega)
      repeat (first | refine gG ?_ | refine zN1 (fun hlen => ?_) | refine zN2 (fun hlen => ?_) | refine zAl (fun _ => ?_) | refine zBx (fun _ => ?_))
      refine zIx 4 (show 4 < 6 by omega) ?_
      repeat (first | refine gG ?_ | refine zN1 (fun hlen => ?_) | refine zN2 (fun hlen => ?_) | refine zAl (fun _ => ?_) | refine zBx (fun _ => ?_))
      refine zFo ?_
      refine zCallG [0, 1] hs ?_
      rintro _ _ ⟨rfl, rfl⟩
      refine ⟨.tup [], _, re_refl, rfl, rfl, ?_⟩
      repeat (first | refine gG ?_ | refine zN1 (fun hlen => ?_) | refine zN2 (fun hlen => ?_) | refine zAl (fun _ => ?_) | refine zBx (fun _ => ?_))
      exact ⟨5, ⟨by omega, dk⟩, by omega, x_wkd 3 ⟨rfl, trivial⟩ rfl (by repeat (first | exact ag_refl | refine ag_upd rfl ?_ | refine ag_at rfl rfl ?_))⟩
  · simp only [ac6] at hjk
    have hs := step6_ag b1 b2 (.lit (.string nm)) (.lit (.int .i64 vr)) (Us.row us) (Da.row ds) (Tr.row trs) (Im.row ims) (Fu.row fus) acs (k - ac6 na nb nc nd ne nf 5) (by omega) (by omega)
    cases d : decide (((acs.length : Nat) : Int) ≤ (((k - ac6 na nb nc nd ne nf 5 : Nat)) : Int))
    · rw [show nextAt acs.length (k - ac6 na nb nc nd ne nf 5) = -1 by simp only [nextAt, d]; rfl] at hs
      repeat (first | refine gG ?_ | refine zN1 (fun hlen => ?_) | refine zN2 (fun hlen => ?_) | refine zAl (fun _ => ?_) | refine zBx (fun _ => ?_))
      refine zIx 5 (show 5 < 6 by omega) ?_
      repeat (first | refine gG ?_ | refine zN1 (fun hlen => ?_) | refine zN2 (fun hlen => ?_) | refine zAl (fun _ => ?_) | refine zBx (fun _ => ?_))
      refine zFo ?_
      refine zCallG [0, 1] hs ?_
      rintro _ _ ⟨rfl, rfl⟩
      refine ⟨.tup [], _, re_refl, rfl, rfl, ?_⟩
      repeat (first | refine gG ?_ | refine zN1 (fun hlen => ?_) | refine zN2 (fun hlen => ?_) | refine zAl (fun _ => ?_) | refine zBx (fun _ => ?_))
      first | refine zR ?_ | refine zQ ?_
      rw [cutl_big us (by omega)]
      rw [cutl_big ds (by omega)]
      rw [cutl_big trs (by omega)]
      rw [cutl_big ims (by omega)]
      rw [cutl_big fus (by omega)]
      rw [cutl_nat acs (k - ac6 na nb nc nd ne nf 5) (by simp only [ac6]; omega)]
      rfl
    · have dl : acs.length ≤ k - ac6 na nb nc nd ne nf 5 := by simpa using d
      have dk : ac6 na nb nc nd ne nf 6 ≤ k := by simp only [ac6] at dl ⊢; omega
      rw [List.eraseIdx_of_length_le dl, show nextAt acs.length (k - ac6 na nb nc nd ne nf 5) = ((k - ac6 na nb nc nd ne nf 6 : Nat) : Int) by simp only [nextAt, d, cond]; simp only [ac6] at *; omega] at hs
      have dn : decide (((k - ac6 na nb nc nd ne nf 6 : Nat) : Int) < 0) = false := decide_eq_false (by omega)
      repeat (first | refine gG ?_ | refine zN1 (fun hlen => ?_) | refine zN2 (fun hlen => ?_) | refine zAl (fun _ => ?_) | refine zBx (fun _ => ?_))
      refine zIx 5 (show 5 < 6 by omega) ?_
      repeat (first | refine gG ?_ | refine zN1 (fun hlen => ?_) | refine zN2 (fun hlen => ?_) | refine zAl (fun _ => ?_) | refine zBx (fun _ => ?_))
      refine zFo ?_
      refine zCallG [0, 1] hs ?_
      rintro _ _ ⟨rfl, rfl⟩
      refine ⟨.tup [], _, re_refl, rfl, rfl, ?_⟩
      repeat (first | refine gG ?_ | refine zN1 (fun hlen => ?_) | refine zN2 (fun hlen => ?_) | refine zAl (fun _ => ?_) | refine zBx (fun _ => ?_))
      exact ⟨6, ⟨by omega, dk⟩, by omega, x_wkd 3 ⟨rfl, trivial⟩ rfl (by repeat (first | exact ag_refl | refine ag_upd rfl ?_ | refine ag_at rfl rfl ?_))⟩
set_option maxRecDepth 100000 in
set_option maxHeartbeats 4000000 in
theorem withoutOut_af (p : Pr) (k : Int) (hp : p.parts ≤ 1048576) (hk : k < 0 ∨ (p.parts : Int) ≤ k) : AF Tryd.prog 16 [p.t, .lit (.int .i64 k)] (· = .tup [Pr.zero.t, .lit (.int .i64 4)]) := by
  have hpa := excParts_af p hp
  cases d0 : decide (k < 0)
  · have d1 : decide (((p.parts : Nat) : Int) ≤ k) = true := decide_eq_true (hk.resolve_left (by simpa using d0))
    generalize p.parts = pp at *
    clear hk
    obtain ⟨nm, vr, us, ds, trs, ims, fus, acs⟩ := p
    refine af_enter tok Tryd.func16 Tryd.ntmps16 Tryd.results16 rfl (by kernel_rfl) rfl rfl fun F hX => ?_
    repeat (first | refine gG ?_ | refine zN1 (fun hlen => ?_) | refine zN2 (fun hlen => ?_) | refine zAl (fun _ => ?_) | refine zBx (fun _ => ?_))
    refine ac_draw [1, 1, 1, 1, 1, 1, 1, 1] [0, 1, 2, 3, 4, 5, 6, 7] (by kernel_rfl) (by kernel_rfl) ?_
    refine gW ?_
    try (first | (apply w_un; (focus exact rfl); (focus exact rfl); (focus exact rfl); (focus exact rfl)) | (apply w_no; (focus exact rfl); (focus exact rfl); (focus exact rfl); (focus exact rfl); focus (first | rfl | assumption | exact neg_t (by assumption) | exact neg_f (by assumption))) | (apply w_qg; (focus exact rfl); (focus exact rfl); (focus exact rfl); (focus exact rfl); (focus (first | rfl | assumption | exact neg_t (by assumption) | exact neg_f (by assumption))); (focus (intro _; (refine zCall hpa ?_; rintro _ rfl); exact det_refl))))
    try refine gW ?_
    refine w_nil ?_
    repeat (first | refine gG ?_ | refine zN1 (fun hlen => ?_) | refine zN2 (fun hlen => ?_) | refine zAl (fun _ => ?_) | refine zBx (fun _ => ?_))
    first | refine zR (ts := [Pr.zero.t, .lit (.int .i64 4)]) ?_ | refine zQ (ts := [Pr.zero.t, .lit (.int .i64 4)]) ?_
    rfl
  · clear hk hpa
    obtain ⟨nm, vr, us, ds, trs, ims, fus, acs⟩ := p
    refine af_enter tok Tryd.func16 Tryd.ntmps16 Tryd.results16 rfl (by kernel_rfl) rfl rfl fun F hX => ?_
    repeat (first | refine gG ?_ | refine zN1 (fun hlen => ?_) | refine zN2 (fun hlen => ?_) | refine zAl (fun _ => ?_) | refine zBx (fun _ => ?_))
    refine ac_draw [1, 1, 1, 1, 1, 1, 1, 1] [0, 1, 2, 3, 4, 5, 6, 7] (by kernel_rfl) (by kernel_rfl) ?_
    refine gW ?_
    refine w_nil ?_
    repeat (first | refine gG ?_ | refine zN1 (fun hlen => ?_) | refine zN2 (fun hlen => ?_) | refine zAl (fun _ => ?_) | refine zBx (fun _ => ?_))
    first | refine zR (ts := [Pr.zero.t, .lit (.int .i64 4)]) ?_ | refine zQ (ts := [Pr.zero.t, .lit (.int .i64 4)]) ?_
    rfl
end Go.Proofs.YtllgibfmddihgaaDoor
