/-
  Texts of this proof, part 10: Pwd Pwe Pee Pef.
-/
import Derived.Test.YtbfomgchjlkopaaDoorQPageLines9
import Derived.Laws.IdiomRangeMap
import Derived.MapKept
namespace Go.Proofs.YtbfomgchjlkopaaDoor
open Go.RowKit
theorem at_two {X : List En} {A B : List TE} {R : List En} {k : Nat} (h : k < B.length) : (X ++ (fsts A ++ (fsts B ++ R)))[X.length + A.length + k]? = some (B[k]).1 := by
  rw [show X ++ (fsts A ++ (fsts B ++ R)) = (X ++ fsts A) ++ (fsts B ++ R) by simp]
  have := at_mid (X := X ++ fsts A) (C := B) (R := R) (k := k) h
  rwa [List.length_append, fsts_len] at this
/-- what symMerge is to do with shorter runs -/
def SymIH (w : Value) (n : Nat) (ok : En → Prop) (f : FuncId) (cap : List T) (N : Nat) : Prop := ∀ (X Z : List En) (A B : List TE), A.length + B.length < N → A ≠ [] → B ≠ [] → A.Pairwise (SR enC) → B.Pairwise (SR enC) → TagLt A B → (∀ e ∈ A, ok e.1) → (∀ e ∈ B, ok e.1) → X.length + A.length + B.length + Z.length = n →
  AG Tryd.prog 65 [.own 0 w, .c (.lit (.int .i64 (X.length : Nat))), .c (.lit (.int .i64 ((X.length + A.length : Nat) : Int))), .c (.lit (.int .i64 ((X.length + A.length + B.length : Nat) : Int))), .c (.fn (.func f) cap)] [.row w 40 4 n ((X ++ (fsts A ++ (fsts B ++ Z))).flatMap En.ts)] (MergeR w n X A B Z)
set_option maxRecDepth 100000 in
set_option maxHeartbeats 8000000 in
theorem sym3_ag (w : Value) (n : Nat) (X Z : List En) (A B : List TE) (ok : En → Prop) (hb : n ≤ 2097152) (f : FuncId) (cap : List T) (hcm : CmpOk ok f cap) (hA : A.Pairwise (SR enC)) (hB : B.Pairwise (SR enC)) (ht : TagLt A B) (hokA : ∀ e ∈ A, ok e.1) (hokB : ∀ e ∈ B, ok e.1) (hA2 : 2 ≤ A.length) (hB2 : 2 ≤ B.length) (hn : X.length + A.length + B.length + Z.length = n) (ih : SymIH w n ok f cap (A.length + B.length)) :
    AG Tryd.prog 65 [.own 0 w, .c (.lit (.int .i64 (X.length : Nat))), .c (.lit (.int .i64 ((X.length + A.length : Nat) : Int))), .c (.lit (.int .i64 ((X.length + A.length + B.length : Nat) : Int))), .c (.fn (.func f) cap)] [.row w 40 4 n ((X ++ (fsts A ++ (fsts B ++ Z))).flatMap En.ts)] (MergeR w n X A B Z) := by
  obtain ⟨q, hq⟩ : ∃ q, q = (A.length + B.length) / 2 := ⟨_, rfl⟩
  have hM1 : q < A.length → MidOk A B q (q - B.length) q := fun h => by
    have := mid_of A B
    rw [← hq, if_pos h, if_pos h] at this
    exact this
  have hM2 : ¬ q < A.length → MidOk A B q 0 A.length := fun h => by
    have := mid_of A B
    rw [← hq, if_neg h, if_neg h] at this
    exact this
  have hs1 : (X.length + (X.length + A.length + B.length)) / 2 = X.length + q := by omega
  have d1 : decide (((A.length : Nat) : Int) = 1) = false := decide_eq_false (by omega)
  have d2 : decide (((B.length : Nat) : Int) = 1) = false := decide_eq_false (by omega)
  refine ag_enter (1) tok Tryd.func65 Tryd.ntmps65 Tryd.results65 rfl (by kernel_rfl) rfl fun F => ?_
  repeat (first | refine gG ?_)
  refine lo_sub rfl rfl (r := ((A.length : Nat) : Int)) (by rw [IntWalk.i64_in _ (by omega)]; omega) ?_
  repeat (first | refine gG ?_)
  refine lo_sub rfl rfl (r := ((B.length : Nat) : Int)) (by rw [IntWalk.i64_in _ (by omega)]; omega) ?_
  repeat (first | refine gG ?_)
  refine zAn (a := X.length) (b := X.length + A.length + B.length) ?_
  repeat (first | refine gG ?_)
  refine lo_conv tok rfl rfl rfl rfl (u64nat (s := X.length + (X.length + A.length + B.length)) (by omega)) ?_
  repeat (first | refine gG ?_)
  refine lo_shr rfl rfl (by decide) (half_nat (X.length + (X.length + A.length + B.length))) ?_
  repeat (first | refine gG ?_)
  refine lo_conv tok rfl rfl rfl rfl (r := ((X.length + q : Nat) : Int)) (by rw [i64nat (by omega), hs1]) ?_
  repeat (first | refine gG ?_)
  refine zAn (a := X.length + q) (b := X.length + A.length) ?_
  repeat (first | refine gG ?_)
  refine x_join [20, 21, 141, 142, 143, 144, 145, 146] (fun y : { y : Nat × Nat // MidOk A B q y.1 y.2 } => [(20, .c (.lit (.int .i64 ((X.length + y.1.1 : Nat) : Int)))), (21, .c (.lit (.int .i64 ((X.length + y.1.2 : Nat) : Int))))]) (fun _ => [.row w 40 4 n ((X ++ (fsts A ++ (fsts B ++ Z))).flatMap En.ts)]) ?_ ?_
  rotate_left
  · refine x_cond rfl (fun hc => ?_) (fun hc => ?_)
    · have hlt : q < A.length := by
        have := of_decide_eq_true hc
        omega
      clear hc
      have hM := hM1 hlt
      have := hM.lo2
      have hqB : B.length ≤ q := by omega
      repeat (first | refine gG ?_)
      refine lo_sub rfl rfl (r := ((X.length + (q - B.length) : Nat) : Int)) (by rw [IntWalk.i64_in _ (by omega)]; omega) ?_
      repeat (first | refine gG ?_)
      exact ⟨⟨(q - B.length, q), hM⟩, x_wk ⟨rfl, rfl, trivial⟩ rfl (by repeat (first | exact ag_refl | refine ag_upd rfl ?_ | refine ag_at rfl rfl ?_))⟩
    · have hlt : ¬ q < A.length := by
        have := of_decide_eq_false hc
        omega
      clear hc
      repeat (first | refine gG ?_)
      exact ⟨⟨(0, A.length), hM2 hlt⟩, x_wk ⟨rfl, rfl, trivial⟩ rfl (by repeat (first | exact ag_refl | refine ag_upd rfl ?_ | refine ag_at rfl rfl ?_))⟩
  rintro ⟨⟨lo, hi⟩, hM⟩
  dsimp only at hM ⊢
  clear hM1 hM2 d1 d2
  have hq2 : 2 ≤ q := by omega
  repeat (first | refine gG ?_)
  refine lo_sub rfl rfl (r := ((X.length + q + (X.length + A.length) - 1 : Nat) : Int)) (by rw [IntWalk.i64_in _ (by omega)]; omega) ?_
  repeat (first | refine gG ?_)
  refine x_loop [20, 21, 23, 149, 150, 151, 152, 153, 154, 155, 156, 157, 158, 159, 160, 161, 162, 163, 164, 165, 166, 167, 168, 169, 170, 171, 172, 173, 174] (fun y : Nat × Nat => [(20, .c (.lit (.int .i64 ((X.length + y.1 : Nat) : Int)))), (21, .c (.lit (.int .i64 ((X.length + y.2 : Nat) : Int))))]) (fun _ => [.row w 40 4 n ((X ++ (fsts A ++ (fsts B ++ Z))).flatMap En.ts)]) (fun y => Sea enC A B q lo hi y.1 y.2) (fun y => y.2 - y.1) (lo, hi) (Sea.start hM) ⟨rfl, rfl, trivial⟩ rfl ?_
  rintro ⟨s, r⟩ hS
  dsimp only at hS ⊢
  have hSa := hS.a
  have hSb := hS.b
  have hSc := hS.c
  have hiq := hM.hiq
  have hiA := hM.hiA
  repeat (first | refine gG ?_)
  refine x_cond rfl (fun hc => ?_) (fun hc => ?_)
  · have hsr : s < r := by
      have := of_decide_eq_true hc
      omega
    clear hc
    obtain ⟨c, hc2⟩ : ∃ c, c = (s + r) / 2 := ⟨_, rfl⟩
    have hs2 : (X.length + s + (X.length + r)) / 2 = X.length + c := by omega
    obtain ⟨k1, k2, k3, k4, k5⟩ := hS.get hM hsr hc2
    have ea := En.at (at_mid (X := X) (R := fsts B ++ Z) k3)
    have eb := En.at (at_two (X := X) (A := A) (R := Z) k4)
    have hcp := hcm (B[q - c - 1]).1 (A[c]).1 (hokB _ (List.getElem_mem _)) (hokA _ (List.getElem_mem _))
    have hj1 : X.length + c < n := by omega
    have hj2 : X.length + A.length + (q - c - 1) < n := by omega
    have hup := fun (h : ¬ enC (B[q - c - 1]).1 (A[c]).1 < 0) => hS.up enC_ok hA hB hM hsr hc2 fun hp => h (hp k4 k3)
    have hdn := fun (h : enC (B[q - c - 1]).1 (A[c]).1 < 0) => hS.down enC_ok hA hB hM hsr hc2 fun _ _ => h
    cases hcf : decide (enC (B[q - c - 1]).1 (A[c]).1 < 0)
    · have hS2 := hup (of_decide_eq_false hcf)
      clear hup hdn hS
      generalize enC (B[q - c - 1]).1 (A[c]).1 = cv at *
      generalize (B[q - c - 1]).1 = y at *
      generalize (A[c]).1 = x at *
      repeat (first | refine gG ?_)
      refine zAn (a := X.length + s) (b := X.length + r) ?_
      repeat (first | refine gG ?_)
      refine lo_conv tok rfl rfl rfl rfl (u64nat (s := X.length + s + (X.length + r)) (by omega)) ?_
      repeat (first | refine gG ?_)
      refine lo_shr rfl rfl (by decide) (half_nat (X.length + s + (X.length + r))) ?_
      repeat (first | refine gG ?_)
      refine lo_conv tok rfl rfl rfl rfl (r := ((X.length + c : Nat) : Int)) (by rw [i64nat (by omega), hs2]) ?_
      repeat (first | refine gG ?_)
      refine ac_draw [1, 1, 1, 1, 1, 1, 1, 1, 1, 1, 1, 1, 1, 1] [0, 1, 2, 3, 4, 5, 6, 7, 8, 9, 10, 11, 12, 13] (by kernel_rfl) (by kernel_rfl) ?_
      refine gW ?_
      apply w_q; (focus exact rfl); (focus exact rfl); focus (intro _; (refine lo_sub rfl rfl (r := ((X.length + A.length + (q - c - 1) : Nat) : Int)) (by rw [IntWalk.i64_in _ (by omega)]; omega) ?_); exact det_refl)
      apply w_q; (focus exact rfl); (focus exact rfl); focus (intro _; (refine zIxo (X.length + A.length + (q - c - 1)) hj2 ?_); exact det_refl)
      apply w_q; (focus exact rfl); (focus exact rfl); focus (intro _; (refine zElo eb (En.ts_len _) ?_); exact det_refl)
      refine gW ?_
      apply w_q; (focus exact rfl); (focus exact rfl); focus (intro _; (refine zIxo (X.length + c) hj1 ?_); exact det_refl)
      apply w_q; (focus exact rfl); (focus exact rfl); focus (intro _; (refine zElo ea (En.ts_len _) ?_); exact det_refl)
      apply w_q; (focus exact rfl); (focus exact rfl); focus (intro _; (refine zCallc hcp ?_ (hx := rzs_cons rz_c (rzs_cons rz_c rzs_self)); rintro _ rfl); exact det_refl)
      refine gW ?_
      refine w_nil ?_
      repeat (first | refine gG ?_)
      exact ⟨(c + 1, r), hS2, by dsimp only; omega, x_wkd 1 ⟨rfl, rfl, trivial⟩ rfl (by repeat (first | exact ag_refl | refine ag_upd rfl ?_ | refine ag_at rfl rfl ?_))⟩
    · have hS2 := hdn (of_decide_eq_true hcf)
      clear hup hdn hS
      generalize enC (B[q - c - 1]).1 (A[c]).1 = cv at *
      generalize (B[q - c - 1]).1 = y at *
      generalize (A[c]).1 = x at *
      repeat (first | refine gG ?_)
      refine zAn (a := X.length + s) (b := X.length + r) ?_
      repeat (first | refine gG ?_)
      refine lo_conv tok rfl rfl rfl rfl (u64nat (s := X.length + s + (X.length + r)) (by omega)) ?_
      repeat (first | refine gG ?_)
      refine lo_shr rfl rfl (by decide) (half_nat (X.length + s + (X.length + r))) ?_
      repeat (first | refine gG ?_)
      refine lo_conv tok rfl rfl rfl rfl (r := ((X.length + c : Nat) : Int)) (by rw [i64nat (by omega), hs2]) ?_
      repeat (first | refine gG ?_)
      refine ac_draw [1, 1, 1, 1, 1, 1, 1, 1, 1, 1, 1, 1, 1, 1] [0, 1, 2, 3, 4, 5, 6, 7, 8, 9, 10, 11, 12, 13] (by kernel_rfl) (by kernel_rfl) ?_
      refine gW ?_
      apply w_q; (focus exact rfl); (focus exact rfl); focus (intro _; (refine lo_sub rfl rfl (r := ((X.length + A.length + (q - c - 1) : Nat) : Int)) (by rw [IntWalk.i64_in _ (by omega)]; omega) ?_); exact det_refl)
      apply w_q; (focus exact rfl); (focus exact rfl); focus (intro _; (refine zIxo (X.length + A.length + (q - c - 1)) hj2 ?_); exact det_refl)
      apply w_q; (focus exact rfl); (focus exact rfl); focus (intro _; (refine zElo eb (En.ts_len _) ?_); exact det_refl)
      refine gW ?_
      apply w_q; (focus exact rfl); (focus exact rfl); focus (intro _; (refine zIxo (X.length + c) hj1 ?_); exact det_refl)
      apply w_q; (focus exact rfl); (focus exact rfl); focus (intro _; (refine zElo ea (En.ts_len _) ?_); exact det_refl)
      apply w_q; (focus exact rfl); (focus exact rfl); focus (intro _; (refine zCallc hcp ?_ (hx := rzs_cons rz_c (rzs_cons rz_c rzs_self)); rintro _ rfl); exact det_refl)
      refine gW ?_
      refine w_nil ?_
      repeat (first | refine gG ?_)
      exact ⟨(s, c), hS2, by dsimp only; omega, x_wkd 1 ⟨rfl, rfl, trivial⟩ rfl (by repeat (first | exact ag_refl | refine ag_upd rfl ?_ | refine ag_at rfl rfl ?_))⟩
  have hsr : r = s := by
    have := of_decide_eq_false hc
    omega
  subst hsr
  clear hc
  obtain ⟨c1, c2, c3, c4, c5⟩ := hS.cut enC_ok hA hB ht hM
  clear hS hSa hSb hSc hiq hiA hM
  -- BEGIN back
  obtain ⟨t, hte⟩ : ∃ t, t = q - r := ⟨_, rfl⟩
  rw [← hte] at c3 c4 c5
  have lA1 : (A.take r).length = r := by rw [List.length_take]; omega
  have lA2 : (A.drop r).length = A.length - r := List.length_drop
  have lB1 : (B.take t).length = t := by rw [List.length_take]; omega
  have lB2 : (B.drop t).length = B.length - t := List.length_drop
  have hrow : X ++ (fsts A ++ (fsts B ++ Z)) = X ++ (fsts (A.take r) ++ (fsts (A.drop r) ++ (fsts (B.take t) ++ (fsts (B.drop t) ++ Z)))) := by
    have e1 : fsts A = fsts (A.take r) ++ fsts (A.drop r) := by rw [← fsts_app, List.take_append_drop]
    have e2 : fsts B = fsts (B.take t) ++ fsts (B.drop t) := by rw [← fsts_app, List.take_append_drop]
    rw [e1, e2]
    simp
  have tA := List.take_append_drop r A
  have tB := List.take_append_drop t B
  have hmt := fun C1 C2 => merge_two (cf := enC) (C1 := C1) (C2 := C2) (s := r) (t := t) hA hB
  have pA1 : (A.take r).Pairwise (SR enC) := hA.sublist (List.take_sublist _ _)
  have pA2 : (A.drop r).Pairwise (SR enC) := hA.sublist (List.drop_sublist _ _)
  have pB1 : (B.take t).Pairwise (SR enC) := hB.sublist (List.take_sublist _ _)
  have pB2 : (B.drop t).Pairwise (SR enC) := hB.sublist (List.drop_sublist _ _)
  have tg1 : TagLt (A.take r) (B.take t) := ht.sub (fun _ h => List.mem_of_mem_take h) (fun _ h => List.mem_of_mem_take h)
  have tg2 : TagLt (A.drop r) (B.drop t) := ht.sub (fun _ h => List.mem_of_mem_drop h) (fun _ h => List.mem_of_mem_drop h)
  have oA1 : ∀ e ∈ A.take r, ok e.1 := fun e h => hokA e (List.mem_of_mem_take h)
  have oA2 : ∀ e ∈ A.drop r, ok e.1 := fun e h => hokA e (List.mem_of_mem_drop h)
  have oB1 : ∀ e ∈ B.take t, ok e.1 := fun e h => hokB e (List.mem_of_mem_take h)
  have oB2 : ∀ e ∈ B.drop t, ok e.1 := fun e h => hokB e (List.mem_of_mem_drop h)
  rw [hrow]
  generalize A.take r = A1 at *
  generalize A.drop r = A2 at *
  generalize B.take t = B1 at *
  generalize B.drop t = B2 at *
  have eXA : (X ++ fsts A1).length = X.length + r := by rw [List.length_append, fsts_len, lA1]
  have eXA2 : X.length + r + (fsts A2).length = X.length + A.length := by rw [fsts_len]; omega
  have eXA3 : X.length + A.length + (fsts B1).length = X.length + A.length + t := by rw [fsts_len, lB1]
  have eM : X.length + r + B1.length = X.length + q := by omega
  have nf : ∀ {l : List TE}, l ≠ [] → fsts l ≠ [] := fun h e => h (by simpa [fsts] using e)
  have ih1 : A1 ≠ [] → B1 ≠ [] → AG Tryd.prog 65 [.own 0 w, .c (.lit (.int .i64 (X.length : Nat))), .c (.lit (.int .i64 ((X.length + r : Nat) : Int))), .c (.lit (.int .i64 ((X.length + q : Nat) : Int))), .c (.fn (.func f) cap)] [.row w 40 4 n ((X ++ (fsts A1 ++ (fsts B1 ++ (fsts A2 ++ (fsts B2 ++ Z))))).flatMap En.ts)] (MergeR w n X A1 B1 (fsts A2 ++ (fsts B2 ++ Z))) := fun h1 h2 => by
    have h := ih X (fsts A2 ++ (fsts B2 ++ Z)) A1 B1 (by omega) h1 h2 pA1 pB1 tg1 oA1 oB1 (by simp only [List.length_append, fsts_len]; omega)
    rw [lA1, eM] at h
    exact h
  have ih2 : ∀ C1 : List TE, C1.length = q → A2 ≠ [] → B2 ≠ [] → AG Tryd.prog 65 [.own 0 w, .c (.lit (.int .i64 ((X.length + q : Nat) : Int))), .c (.lit (.int .i64 ((X.length + A.length + t : Nat) : Int))), .c (.lit (.int .i64 ((X.length + A.length + B.length : Nat) : Int))), .c (.fn (.func f) cap)] [.row w 40 4 n ((X ++ (fsts C1 ++ (fsts A2 ++ (fsts B2 ++ Z)))).flatMap En.ts)] (MergeR w n (X ++ fsts C1) A2 B2 Z) := fun C1 hC h1 h2 => by
    have h := ih (X ++ fsts C1) Z A2 B2 (by omega) h1 h2 pA2 pB2 tg2 oA2 oB2 (by simp only [List.length_append, fsts_len]; omega)
    rw [show (X ++ fsts C1).length = X.length + q by rw [List.length_append, fsts_len, hC], show X.length + q + A2.length = X.length + A.length + t by omega, show X.length + A.length + t + B2.length = X.length + A.length + B.length by omega, List.append_assoc] at h
    exact h
  have hrot : A2 ≠ [] → B1 ≠ [] → AG Tryd.prog 77 [.own 0 w, .c (.lit (.int .i64 ((X.length + r : Nat) : Int))), .c (.lit (.int .i64 ((X.length + A.length : Nat) : Int))), .c (.lit (.int .i64 ((X.length + A.length + t : Nat) : Int))), .c (.fn (.func f) cap)] [.row w 40 4 n ((X ++ (fsts A1 ++ (fsts A2 ++ (fsts B1 ++ (fsts B2 ++ Z))))).flatMap En.ts)] (fun rr hs => rr = .tup [] ∧ hs = [.row w 40 4 n ((X ++ (fsts A1 ++ (fsts B1 ++ (fsts A2 ++ (fsts B2 ++ Z))))).flatMap En.ts)]) := fun h1 h2 => by
    have h := rot_ag w n (X ++ fsts A1) (fsts A2) (fsts B1) (fsts B2 ++ Z) (nf h1) (nf h2) (by simp only [List.length_append, fsts_len]; omega) hb f cap
    rw [eXA, eXA2, eXA3, List.append_assoc, List.append_assoc] at h
    exact h
  have hJ1 : (A1 = [] ∨ B1 = []) → (A1 ++ B1).Pairwise (SR enC) := fun h => by
    rcases h with h | h
    · rw [h, List.nil_append]; exact pB1
    · rw [h, List.append_nil]; exact pA1
  have hJ2 : (A2 = [] ∨ B2 = []) → (A2 ++ B2).Pairwise (SR enC) := fun h => by
    rcases h with h | h
    · rw [h, List.nil_append]; exact pB2
    · rw [h, List.append_nil]; exact pA2
  have ne : ∀ {l : List TE}, 0 < l.length → l ≠ [] := fun h => List.length_pos_iff.1 h
  have nl : ∀ {l : List TE}, ¬ 0 < l.length → l = [] := fun h => List.eq_nil_of_length_eq_zero (by omega)
  clear ih hrow pA1 pA2 pB1 pB2 tg1 tg2 oA1 oA2 oB1 oB2 hokA hokB hA hB eXA eXA2 eXA3 eM nf
  repeat (first | refine gG ?_)
  refine lo_sub rfl rfl (r := ((X.length + A.length + t : Nat) : Int)) (by rw [IntWalk.i64_in _ (by omega)]; omega) ?_
  refine zOp ?_
  refine zA ?_
  refine zNil ?_
  refine ac_seq ?_
  refine x_join [178, 179, 180, 181, 182, 183, 184, 185, 186, 187, 188, 189, 190, 191] (fun _ : Unit => []) (fun _ => [.row w 40 4 n ((X ++ (fsts A1 ++ (fsts B1 ++ (fsts A2 ++ (fsts B2 ++ Z))))).flatMap En.ts)]) (fun _ => ?_) ?_
  rotate_left
  · by_cases g1 : r < A.length
    · have d3 : decide (((X.length + r : Nat) : Int) < ((X.length + A.length : Nat) : Int)) = true := decide_eq_true (by omega)
      by_cases g2 : 0 < t
      · have d4 : decide (((X.length + A.length : Nat) : Int) < ((X.length + A.length + t : Nat) : Int)) = true := decide_eq_true (by omega)
        have hr := hrot (ne (by omega)) (ne (by omega))
        clear hrot ih1 ih2 hmt hJ1 hJ2 ne nl
        repeat (first | refine gG ?_)
        refine zCallG [0] hr ?_
        rintro _ _ ⟨rfl, rfl⟩
        refine ⟨_, _, re_refl, rfl, rfl, ?_⟩
        repeat (first | refine gG ?_)
        exact ⟨(), x_wk trivial rfl (by repeat (first | exact ag_refl | refine ag_upd rfl ?_ | refine ag_at rfl rfl ?_))⟩
      · have d4 : decide (((X.length + A.length : Nat) : Int) < ((X.length + A.length + t : Nat) : Int)) = false := decide_eq_false (by omega)
        have hB1 : B1 = [] := nl (by omega)
        clear hrot ih1 ih2 hmt hJ1 hJ2 ne nl
        repeat (first | refine gG ?_)
        exact ⟨(), x_wk trivial (by rw [hB1, fsts_nil]; rfl) (by repeat (first | exact ag_refl | refine ag_upd rfl ?_ | refine ag_at rfl rfl ?_))⟩
    · have d3 : decide (((X.length + r : Nat) : Int) < ((X.length + A.length : Nat) : Int)) = false := decide_eq_false (by omega)
      have hA2 : A2 = [] := nl (by omega)
      clear hrot ih1 ih2 hmt hJ1 hJ2 ne nl
      repeat (first | refine gG ?_)
      exact ⟨(), x_wk trivial (by rw [hA2, fsts_nil]; rfl) (by repeat (first | exact ag_refl | refine ag_upd rfl ?_ | refine ag_at rfl rfl ?_))⟩
  clear hrot
  refine ac_seq ?_
  refine x_join [192, 193, 194, 195, 196, 197, 198, 199, 200, 201, 202, 203, 204, 205] (fun _ : { C : List TE // C.Perm (A1 ++ B1) ∧ C.Pairwise (SR enC) } => []) (fun c => [.row w 40 4 n ((X ++ (fsts c.1 ++ (fsts A2 ++ (fsts B2 ++ Z)))).flatMap En.ts)]) ?_ ?_
  rotate_left
  · by_cases g1 : 0 < r
    · have d3 : decide (((X.length : Nat) : Int) < ((X.length + r : Nat) : Int)) = true := decide_eq_true (by omega)
      by_cases g2 : 0 < t
      · have d4 : decide (((X.length + r : Nat) : Int) < ((X.length + q : Nat) : Int)) = true := decide_eq_true (by omega)
        have hr := ih1 (ne (by omega)) (ne (by omega))
        clear ih1 ih2 hmt hJ1 hJ2 ne nl
        repeat (first | refine gG ?_)
        refine zCallG [0] hr ?_
        rintro _ _ ⟨rfl, C1, p1, p2, rfl⟩
        refine ⟨_, _, re_refl, rfl, rfl, ?_⟩
        repeat (first | refine gG ?_)
        exact ⟨⟨C1, p1, p2⟩, x_wk trivial rfl (by repeat (first | exact ag_refl | refine ag_upd rfl ?_ | refine ag_at rfl rfl ?_))⟩
      · have d4 : decide (((X.length + r : Nat) : Int) < ((X.length + q : Nat) : Int)) = false := decide_eq_false (by omega)
        have hj := hJ1 (.inr (nl (by omega)))
        clear ih1 ih2 hmt hJ1 hJ2 ne nl
        repeat (first | refine gG ?_)
        exact ⟨⟨A1 ++ B1, List.Perm.refl _, hj⟩, x_wk trivial (by dsimp only; rw [fsts_app, List.append_assoc]) (by repeat (first | exact ag_refl | refine ag_upd rfl ?_ | refine ag_at rfl rfl ?_))⟩
    · have d3 : decide (((X.length : Nat) : Int) < ((X.length + r : Nat) : Int)) = false := decide_eq_false (by omega)
      have hj := hJ1 (.inl (nl (by omega)))
      clear ih1 ih2 hmt hJ1 hJ2 ne nl
      repeat (first | refine gG ?_)
      exact ⟨⟨A1 ++ B1, List.Perm.refl _, hj⟩, x_wk trivial (by dsimp only; rw [fsts_app, List.append_assoc]) (by repeat (first | exact ag_refl | refine ag_upd rfl ?_ | refine ag_at rfl rfl ?_))⟩
  rintro ⟨C1, p1, p2⟩
  dsimp only
  have lC1 : C1.length = q := by rw [p1.length_eq, List.length_append]; omega
  by_cases g1 : r < A.length
  · have d3 : decide (((X.length + q : Nat) : Int) < ((X.length + A.length + t : Nat) : Int)) = true := decide_eq_true (by omega)
    by_cases g2 : t < B.length
    · have d4 : decide (((X.length + A.length + t : Nat) : Int) < ((X.length + A.length + B.length : Nat) : Int)) = true := decide_eq_true (by omega)
      have hr := ih2 C1 lC1 (ne (by omega)) (ne (by omega))
      clear ih1 ih2 hJ1 hJ2 ne nl
      repeat (first | refine gG ?_)
      refine zCallG [0] hr ?_
      rintro _ _ ⟨rfl, C2, p3, p4, rfl⟩
      refine ⟨_, _, re_refl, rfl, rfl, ?_⟩
      have hm := hmt C1 C2 p1 p3 p2 p4 c4 c5
      repeat (first | refine gG ?_)
      refine zG (vs := []) ?_
      exact ⟨rfl, C1 ++ C2, hm.1, hm.2, by rw [fsts_app, List.append_assoc, List.append_assoc]⟩
    · have d4 : decide (((X.length + A.length + t : Nat) : Int) < ((X.length + A.length + B.length : Nat) : Int)) = false := decide_eq_false (by omega)
      have hj := hJ2 (.inr (nl (by omega)))
      have hm := hmt C1 (A2 ++ B2) p1 (List.Perm.refl _) p2 hj c4 c5
      clear ih1 ih2 hJ1 hJ2 ne nl
      repeat (first | refine gG ?_)
      refine zG (vs := []) ?_
      exact ⟨rfl, C1 ++ (A2 ++ B2), hm.1, hm.2, by simp only [fsts_app, List.append_assoc]⟩
  · have d3 : decide (((X.length + q : Nat) : Int) < ((X.length + A.length + t : Nat) : Int)) = false := decide_eq_false (by omega)
    have hj := hJ2 (.inl (nl (by omega)))
    have hm := hmt C1 (A2 ++ B2) p1 (List.Perm.refl _) p2 hj c4 c5
    clear ih1 ih2 hJ1 hJ2 ne nl
    repeat (first | refine gG ?_)
    refine zG (vs := []) ?_
    exact ⟨rfl, C1 ++ (A2 ++ B2), hm.1, hm.2, by simp only [fsts_app, List.append_assoc]⟩
  -- END back
/-- two runs next to each other are merged -/
theorem sym_ag (w : Value) (n : Nat) (ok : En → Prop) (hb : n ≤ 2097152) (f : FuncId) (cap : List T) (hcm : CmpOk ok f cap) : ∀ N : Nat, SymIH w n ok f cap N := by
  intro N
  induction N with
  | zero => intro X Z A B h; omega
  | succ N ih =>
    intro X Z A B hlt hA0 hB0 hA hB ht hokA hokB hn
    have ha := List.length_pos_iff.2 hA0
    have hbb := List.length_pos_iff.2 hB0
    by_cases h1 : A.length = 1
    · obtain ⟨x, rfl⟩ : ∃ x, A = [x] := List.length_eq_one_iff.1 h1
      have h := sym1_ag w n X Z x B ok hb f cap hcm hB ht (hokA x (by simp)) hokB (by simp at hn; omega)
      rw [inR_zero] at h
      exact h
    · by_cases h2 : B.length = 1
      · obtain ⟨y, rfl⟩ : ∃ y, B = [y] := List.length_eq_one_iff.1 h2
        have h := sym2_ag w n X Z y A ok hb f cap hcm hA ht (hokB y (by simp)) hokA h1 (by simp at hn; omega)
        rw [inR_top] at h
        exact h
      · exact sym3_ag w n X Z A B ok hb f cap hcm hA hB ht hokA hokB (by omega) (by omega) hn fun X' Z' A' B' hl => ih X' Z' A' B' (by omega)
end Go.Proofs.YtbfomgchjlkopaaDoor
namespace Go.Proofs.YtbfomgchjlkopaaDoor
open Go.RowKit
theorem runs_cut2 {bs : Nat} {l : List TE} (h : RunB enC bs l) (hl : bs ≤ l.length) : ∃ A R, l = A ++ R ∧ A.length = bs ∧ A.Pairwise (SR enC) ∧ TagLt A R ∧ RunB enC bs R := by
  by_cases e : bs < l.length
  · exact runs_cut h e
  · exact ⟨l, [], by simp, by omega, runs_len h (by omega), fun x _ y hy => (by cases hy), .last (Nat.zero_le _) List.Pairwise.nil⟩
theorem tag_cut {d : List TE} (h : d.Pairwise (fun x y => x.2 < y.2)) (k : Nat) : TagLt (d.take k) (d.drop k) := by
  rw [← List.take_append_drop k d, List.pairwise_append] at h
  exact fun x hx y hy => h.2.2 x hx y hy
def StabR (w : Value) (n : Nat) (d : List TE) (r : AV) (hs : List Blk) : Prop := r = .tup [] ∧ ∃ C : List TE, C.Perm d ∧ C.Pairwise (SR enC) ∧ hs = [.row w 40 4 n ((fsts C).flatMap En.ts)]
set_option maxRecDepth 100000 in
set_option maxHeartbeats 8000000 in
theorem stable_ag (w : Value) (n : Nat) (ok : En → Prop) (hb : n ≤ 2097152) (f : FuncId) (cap : List T) (hcm : CmpOk ok f cap) (d : List TE) (hd : d.Pairwise (fun x y => x.2 < y.2)) (hok : ∀ e ∈ d, ok e.1) (hn : d.length = n) :
    AG Tryd.prog 46 [.own 0 w, .c (.lit (.int .i64 (n : Nat))), .c (.fn (.func f) cap)] [.row w 40 4 n ((fsts d).flatMap En.ts)] (StabR w n d) := by
  refine ag_enter (1) tok Tryd.func46 Tryd.ntmps46 Tryd.results46 rfl (by kernel_rfl) rfl fun F => ?_
  repeat (first | refine gG ?_)
  refine x_loop [7, 8, 11, 12, 13, 14, 15, 16, 17, 18, 19, 20, 21, 22] (fun D : List TE => [(7, .c (.lit (.int .i64 ((D.length : Nat) : Int)))), (8, .c (.lit (.int .i64 ((D.length + 20 : Nat) : Int))))]) (fun D => [.row w 40 4 n ((fsts D ++ fsts (d.drop D.length)).flatMap En.ts)]) (fun D => Done enC 20 D ∧ D.length ≤ n ∧ D.Perm (d.take D.length)) (fun D => n - D.length) [] ⟨.nil, Nat.zero_le _, by simp⟩ ⟨rfl, rfl, trivial⟩ rfl ?_
  rintro D ⟨hD, hDn, hDp⟩
  have hdl : (d.drop D.length).length = n - D.length := by rw [List.length_drop, hn]
  have hpw : (d.drop D.length).Pairwise (fun x y => x.2 < y.2) := hd.sublist (List.drop_sublist _ _)
  have htg := tag_cut hd D.length
  have hoD : ∀ e ∈ d.drop D.length, ok e.1 := fun e h => hok e (List.mem_of_mem_drop h)
  repeat (first | refine gG ?_)
  refine x_cond rfl (fun hc => ?_) (fun hc => ?_)
  · have hle : D.length + 20 ≤ n := by
      have := of_decide_eq_true hc
      omega
    clear hc
    obtain ⟨A, R, hAR, hA⟩ := split_at (A := d.drop D.length) (n := 20) (by omega)
    have hR : d.drop (D.length + 20) = R := by
      rw [← List.drop_drop, hAR, ← hA, List.drop_left]
    have hT : d.take (D.length + 20) = d.take D.length ++ A := by
      rw [List.take_add, hAR, ← hA, List.take_left]
    rw [hAR] at hpw htg hoD hdl
    rw [List.length_append] at hdl
    have hi := inS_ag w n (fsts D) (fsts R) A ok (List.pairwise_append.1 hpw).1 (fun e h => hoD e (by simp [h])) (by simp only [List.length_append, fsts_len]; omega) hb f cap hcm
    rw [fsts_len, hA] at hi
    rw [hAR, fsts_app]
    repeat (first | refine gG ?_)
    refine zCallG [0] hi ?_
    rintro _ _ ⟨rfl, C, p1, p2, rfl⟩
    refine ⟨_, _, re_refl, rfl, rfl, ?_⟩
    have lC : C.length = 20 := by rw [p1.length_eq]; exact hA
    have lDC : (D ++ C).length = D.length + 20 := by rw [List.length_append, lC]
    repeat (first | refine gG ?_)
    refine zAn (a := D.length + 20) (b := 20) ?_
    repeat (first | refine gG ?_)
    exact ⟨D ++ C, ⟨.snoc hD lC p2 (htg.right.1.perm hDp p1), by omega, by rw [lDC, hT]; exact hDp.append p1⟩, by omega, x_wkd 1 ⟨by rw [lDC]; rfl, by rw [lDC]; rfl, trivial⟩ (by rw [lDC, hR, fsts_app, List.append_assoc]; rfl) (by repeat (first | exact ag_refl | refine ag_upd rfl ?_ | refine ag_at rfl rfl ?_))⟩
  have hlt : n < D.length + 20 := by
    have := of_decide_eq_false hc
    omega
  clear hc
  have hi := inS_ag w n (fsts D) [] (d.drop D.length) ok hpw hoD (by simp only [List.length_append, fsts_len, List.length_nil]; omega) hb f cap hcm
  rw [fsts_len, hdl, show D.length + (n - D.length) = n by omega, List.append_nil] at hi
  repeat (first | refine gG ?_)
  refine zCallG [0] hi ?_
  rintro _ _ ⟨rfl, C, p1, p2, rfl⟩
  refine ⟨_, _, re_refl, rfl, rfl, ?_⟩
  have lC : C.length = n - D.length := by rw [p1.length_eq, hdl]
  have hrun : RunB enC 20 (D ++ C) := runs_join hD (htg.perm hDp p1) (.last (by omega) p2)
  have hper : (D ++ C).Perm d := by
    have := hDp.append p1
    rwa [List.take_append_drop] at this
  rw [List.append_nil, ← fsts_app]
  generalize D ++ C = L0 at *
  clear hi hpw htg hoD hdl hDp hD hDn hlt lC p1 p2
  repeat (first | refine gG ?_)
  refine x_loop [6, 7, 8, 9, 28, 29, 30, 31, 32, 33, 34, 35, 36, 37, 38, 39, 40, 41, 42, 43, 44, 45, 46, 47, 48, 49, 50, 51, 52, 53, 54, 55, 56, 57, 58, 59, 60, 61, 62] (fun y : Nat × List TE => [(6, .c (.lit (.int .i64 ((y.1 : Nat) : Int))))]) (fun y => [.row w 40 4 n ((fsts y.2).flatMap En.ts)]) (fun y => 20 ≤ y.1 ∧ y.1 ≤ 8388608 ∧ RunB enC y.1 y.2 ∧ y.2.Perm d) (fun y => n - y.1) (20, L0) ⟨Nat.le_refl _, show 20 ≤ 8388608 by decide, hrun, hper⟩ ⟨rfl, trivial⟩ rfl ?_
  clear hrun hper L0
  rintro ⟨bs, L⟩ ⟨hb1, hb2, hR, hP⟩
  dsimp only at hb1 hb2 hR hP ⊢
  have hLn : L.length = n := by rw [hP.length_eq, hn]
  repeat (first | refine gG ?_)
  refine x_cond rfl (fun hc => ?_) (fun hc => ?_)
  · have hbn : bs < n := by
      have := of_decide_eq_true hc
      omega
    clear hc
    repeat (first | refine gG ?_)
    refine lo_mul rfl rfl (r := ((2 * bs : Nat) : Int)) (by rw [IntWalk.i64_in _ (by omega)]; omega) ?_
    repeat (first | refine gG ?_)
    refine x_loop [7, 8, 33, 34, 35, 36, 37, 38, 39, 40, 41, 42, 43, 44, 45, 46, 47, 48] (fun y : List TE × List TE => [(7, .c (.lit (.int .i64 ((y.1.length : Nat) : Int)))), (8, .c (.lit (.int .i64 ((y.1.length + 2 * bs : Nat) : Int))))]) (fun y => [.row w 40 4 n ((fsts y.1 ++ fsts y.2).flatMap En.ts)]) (fun y => Done enC (2 * bs) y.1 ∧ RunB enC bs y.2 ∧ TagLt y.1 y.2 ∧ (y.1 ++ y.2).Perm d) (fun y => y.2.length) ([], L) ⟨.nil, hR, (fun x hx => by cases hx), hP⟩ ⟨rfl, by simp only [List.length_nil, Nat.zero_add]; rfl, trivial⟩ rfl ?_
    clear hR hP hLn L
    rintro ⟨D, R⟩ ⟨hD, hR, ht, hP⟩
    dsimp only at hD hR ht hP ⊢
    have hDR : D.length + R.length = n := by rw [← hn, ← hP.length_eq, List.length_append]
    have hokR : ∀ e ∈ R, ok e.1 := fun e he => hok e (hP.mem_iff.1 (by simp [he]))
    repeat (first | refine gG ?_)
    refine x_cond rfl (fun hc => ?_) (fun hc => ?_)
    · have hle : D.length + 2 * bs ≤ n := by
        have := of_decide_eq_true hc
        omega
      clear hc
      obtain ⟨A, R1, rfl, hA, pA, tA, rR1⟩ := runs_cut2 hR (by omega)
      rw [List.length_append] at hDR
      obtain ⟨B, R2, rfl, hB, pB, tB, rR2⟩ := runs_cut2 rR1 (by omega)
      rw [List.length_append] at hDR
      have hs := sym_ag w n ok hb f cap hcm (A.length + B.length + 1) (fsts D) (fsts R2) A B (by omega) (List.length_pos_iff.1 (by omega)) (List.length_pos_iff.1 (by omega)) pA pB tA.right.1 (fun e he => hokR e (by simp [he])) (fun e he => hokR e (by simp [he])) (by rw [fsts_len, fsts_len]; omega)
      rw [fsts_len, hA, hB, show D.length + bs + bs = D.length + 2 * bs by omega] at hs
      rw [fsts_app, fsts_app]
      repeat (first | refine gG ?_)
      refine zAn (a := D.length) (b := bs) ?_
      repeat (first | refine gG ?_)
      refine zCallG [0] hs ?_
      rintro _ _ ⟨rfl, C, p1, p2, rfl⟩
      refine ⟨_, _, re_refl, rfl, rfl, ?_⟩
      have lC : C.length = 2 * bs := by rw [p1.length_eq, List.length_append]; omega
      have lDC : (D ++ C).length = D.length + 2 * bs := by rw [List.length_append, lC]
      have hq : ((D ++ C) ++ R2).Perm d := by
        rw [List.append_assoc]
        refine List.Perm.trans (List.Perm.append_left D ?_) hP
        rw [← List.append_assoc]
        exact p1.append_right R2
      have ht2 : TagLt (D ++ C) R2 := by
        refine TagLt.app (ht.right.2.right.2) ?_
        exact (TagLt.app tA.right.2 tB).perm p1 (List.Perm.refl _)
      have ht3 : TagLt D C := ht.sub (fun _ h => h) (fun x hx => by
        have := p1.mem_iff.1 hx
        simp only [List.mem_append] at this ⊢
        rcases this with h | h
        · exact .inl h
        · exact .inr (.inl h))
      repeat (first | refine gG ?_)
      refine lo_mul rfl rfl (r := ((2 * bs : Nat) : Int)) (by rw [IntWalk.i64_in _ (by omega)]; omega) ?_
      repeat (first | refine gG ?_)
      refine zAn (a := D.length + 2 * bs) (b := 2 * bs) ?_
      repeat (first | refine gG ?_)
      exact ⟨(D ++ C, R2), ⟨.snoc hD lC p2 ht3, rR2, ht2, hq⟩, by dsimp only; simp only [List.length_append]; omega, x_wkd 1 ⟨by rw [lDC]; rfl, by rw [lDC]; rfl, trivial⟩ (by dsimp only; rw [fsts_app, List.append_assoc]; rfl) (by repeat (first | exact ag_refl | refine ag_upd rfl ?_ | refine ag_at rfl rfl ?_))⟩
    have hlt : n < D.length + 2 * bs := by
      have := of_decide_eq_false hc
      omega
    clear hc
    by_cases hm : D.length + bs < n
    · have d1 : decide (((D.length + bs : Nat) : Int) < ((n : Nat) : Int)) = true := decide_eq_true (by omega)
      obtain ⟨A, B, rfl, hA, pA, tA, rB⟩ := runs_cut2 hR (by omega)
      rw [List.length_append] at hDR
      have pB := runs_len rB (by omega)
      have hs := sym_ag w n ok hb f cap hcm (A.length + B.length + 1) (fsts D) [] A B (by omega) (List.length_pos_iff.1 (by omega)) (List.length_pos_iff.1 (by omega)) pA pB tA (fun e he => hokR e (by simp [he])) (fun e he => hokR e (by simp [he])) (by rw [fsts_len, List.length_nil]; omega)
      rw [fsts_len, hA, show D.length + bs + B.length = n by omega, List.append_nil] at hs
      rw [fsts_app]
      repeat (first | refine gG ?_)
      refine zAn (a := D.length) (b := bs) ?_
      repeat (first | refine gG ?_)
      refine zCallG [0] hs ?_
      rintro _ _ ⟨rfl, C, p1, p2, rfl⟩
      refine ⟨_, _, re_refl, rfl, rfl, ?_⟩
      have lC : C.length = bs + B.length := by rw [p1.length_eq, List.length_append]; omega
      have hrun : RunB enC (2 * bs) (D ++ C) := runs_join hD (ht.perm (List.Perm.refl _) p1) (.last (by omega) p2)
      have hper : (D ++ C).Perm d := List.Perm.trans (List.Perm.append_left D p1) hP
      repeat (first | refine gG ?_)
      refine lo_mul rfl rfl (r := ((2 * bs : Nat) : Int)) (by rw [IntWalk.i64_in _ (by omega)]; omega) ?_
      repeat (first | refine gG ?_)
      exact ⟨(2 * bs, D ++ C), ⟨by dsimp only; omega, by dsimp only; omega, hrun, hper⟩, by dsimp only; omega, x_wkd 1 ⟨rfl, trivial⟩ (by dsimp only; rw [fsts_app, List.append_nil]; rfl) (by repeat (first | exact ag_refl | refine ag_upd rfl ?_ | refine ag_at rfl rfl ?_))⟩
    · have d1 : decide (((D.length + bs : Nat) : Int) < ((n : Nat) : Int)) = false := decide_eq_false (by omega)
      have pR := runs_len hR (by omega)
      have hrun : RunB enC (2 * bs) (D ++ R) := runs_join hD ht (.last (by omega) pR)
      repeat (first | refine gG ?_)
      refine zAn (a := D.length) (b := bs) ?_
      repeat (first | refine gG ?_)
      refine lo_mul rfl rfl (r := ((2 * bs : Nat) : Int)) (by rw [IntWalk.i64_in _ (by omega)]; omega) ?_
      repeat (first | refine gG ?_)
      exact ⟨(2 * bs, D ++ R), ⟨by dsimp only; omega, by dsimp only; omega, hrun, hP⟩, by dsimp only; omega, x_wkd 1 ⟨rfl, trivial⟩ (by dsimp only; rw [fsts_app]; rfl) (by repeat (first | exact ag_refl | refine ag_upd rfl ?_ | refine ag_at rfl rfl ?_))⟩
  have hbn : n ≤ bs := by
    have := of_decide_eq_false hc
    omega
  clear hc
  have pL := runs_len hR (by omega)
  repeat (first | refine gG ?_)
  refine zG (vs := []) ?_
  exact ⟨rfl, L, hP, pL, rfl⟩
set_option maxRecDepth 100000 in
set_option maxHeartbeats 4000000 in
/-- the row comes back in stable order -/
theorem sortStable_ag (w : Value) (ok : En → Prop) (f : FuncId) (cap : List T) (hcm : CmpOk ok f cap) (l : List En) (hb : l.length ≤ 2097152) (hok : ∀ e ∈ l, ok e) :
    AG Tryd.prog 32 [.own 0 w, .c (.fn (.func f) cap)] [.row w 40 4 l.length (l.flatMap En.ts)] (fun r hs => r = .tup [] ∧ hs = [.row w 40 4 l.length ((stabL enC l).flatMap En.ts)]) := by
  have hl : (tagF l 0).length = l.length := by rw [← List.length_map (f := (·.1)), tagF_fst]
  have hs := stable_ag w l.length ok hb f cap hcm (tagF l 0) (tagF_pw l 0) (fun e he => hok e.1 (by
    have := List.mem_map_of_mem (f := (·.1)) he
    rwa [tagF_fst] at this)) hl
  rw [show fsts (tagF l 0) = l from tagF_fst l 0] at hs
  refine ag_enter (1) tok Tryd.func32 Tryd.ntmps32 Tryd.results32 rfl (by kernel_rfl) rfl fun F => ?_
  repeat (first | refine gG ?_ | refine zN1 (fun hlen => ?_) | refine zN2 (fun hlen => ?_))
  refine zCallG [0] hs ?_
  rintro _ _ ⟨rfl, C, p1, p2, rfl⟩
  refine ⟨_, _, re_refl, rfl, rfl, ?_⟩
  repeat (first | refine gG ?_ | refine zN1 (fun hlen => ?_) | refine zN2 (fun hlen => ?_))
  refine zG (vs := []) ?_
  exact ⟨rfl, by rw [show fsts C = stabL enC l from stabL_eq enC_ok p1 p2]⟩
end Go.Proofs.YtbfomgchjlkopaaDoor
namespace Go.Proofs.YtbfomgchjlkopaaDoor
open Go.RowKit
set_option maxRecDepth 100000 in
set_option maxHeartbeats 2000000 in
theorem traitEntries_af (t : Tr) (hd : t.size ≤ 1048576) : AF Tryd.prog 28 [t.t] (· = En.row (trE t)) := by
  obtain ⟨nm, l⟩ := t
  have h0 : nm.size + Fu.sizes l + 1 ≤ 1048576 := hd
  have hls := Fu.len_sizes l
  have z2 := names_lens l
  have hj := joinC_af (l.map Fu.name) (by omega)
  have hjs := joinS_size (l.map Fu.name)
  have hxl : (l.map Fu.name).length = l.length := by simp
  have hE : trE ⟨nm, l⟩ = l.map (tfE ⟨nm, l⟩) ++ [⟨nm, 3, ⟨#[]⟩, ⟨#[116, 114, 97, 105, 116, 32]⟩ ++ nm ++ ⟨#[32, 61, 32]⟩ ++ joinS (l.map Fu.name) ⟨#[44, 32]⟩⟩] := rfl
  rw [hE]
  have hmk : ∀ a : Fu, tfE ⟨nm, l⟩ a = ⟨a.name, 4, nm, funS a ++ ⟨#[32, 111, 102, 32]⟩ ++ nm⟩ := fun _ => rfl
  generalize tfE ⟨nm, l⟩ = mf at *
  clear hE hd
  refine af_enter tok Tryd.func28 Tryd.ntmps28 Tryd.results28 rfl (by kernel_rfl) rfl rfl fun F hX => ?_
  repeat (first | refine gG ?_ | refine zN1 (fun hlen => ?_) | refine zN2 (fun hlen => ?_) | refine zAl (fun _ => ?_) | refine zBx (fun _ => ?_) | refine zAp (fun _ => ?_))
  rename_i b0
  refine x_own 3 40 4 rfl rfl rfl rfl rfl ?_
  refine x_own 4 9 1 rfl rfl rfl rfl rfl ?_
  refine x_loop [3, 4, 6, 10, 11, 12, 13, 14, 15, 16, 17, 18, 19, 20, 21, 22, 23, 24, 25, 26, 27, 28, 29, 30, 31, 32, 33] (fun y : Nat × Value × Value => [(10, .c (.lit (.int .i64 y.1))), (3, .own 1 y.2.1), (4, .own 2 y.2.2)])
    (fun y => [.box b0 62 [.c (.lit (.string nm)), .c (Fu.row l)], .row y.2.1 40 4 ((l.take y.1).map mf).length (((l.take y.1).map mf).flatMap En.ts), .row y.2.2 9 1 ((l.take y.1).map Fu.name).length (((l.take y.1).map Fu.name).flatMap strTs)])
    (fun y => y.1 ≤ l.length) (fun y => l.length - y.1) (0, .slice none 0 0, .slice none 0 0) (Nat.zero_le _) ⟨rfl, rfl, rfl, trivial⟩ rfl ?_
  rintro ⟨i, v, u⟩ hk
  dsimp only at hk ⊢
  have hlk := len_mt Fu.name hk
  have hlk2 := len_mt mf hk
  repeat (first | refine gG ?_ | refine zN1 (fun hlen => ?_) | refine zN2 (fun hlen => ?_) | refine zAl (fun _ => ?_) | refine zBx (fun _ => ?_) | refine zAp (fun _ => ?_))
  refine x_cond rfl (fun h => ?_) (fun h => ?_)
  · have hk' : i < l.length := by simpa using h
    obtain ⟨a, ha⟩ := nth hk'
    have haz := Fu.size_mem (List.mem_of_getElem? ha)
    have hfa := function_af a (by omega)
    have hsn := str_snoc Fu.name ha
    have hsl := len_ms Fu.name ha
    have hsn2 := en_snoc mf ha
    have hsl2 := len_ms mf ha
    have hdz := funS_size a
    rw [hmk a] at hsn2
    dsimp only [En.ts] at hsn2
    repeat (first | refine gG ?_ | refine zN1 (fun hlen => ?_) | refine zN2 (fun hlen => ?_) | refine zAl (fun _ => ?_) | refine zBx (fun _ => ?_) | refine zAp (fun _ => ?_))
    refine zIx (i) (hk') ?_
    repeat (first | refine gG ?_ | refine zN1 (fun hlen => ?_) | refine zN2 (fun hlen => ?_) | refine zAl (fun _ => ?_) | refine zBx (fun _ => ?_) | refine zAp (fun _ => ?_))
    refine zEl (Fu.at ha) (Fu.ts_len a) ?_
    generalize funS a = ax at *
    obtain ⟨na, ps, ns, ys, ⟨ka, ta, la⟩, ⟨kb, nb, tb, nsb, ysb, lb, rsb, pb⟩⟩ := a
    dsimp only at hsn hsn2
    repeat (first | refine gG ?_ | refine zN1 (fun hlen => ?_) | refine zN2 (fun hlen => ?_) | refine zAl (fun _ => ?_) | refine zBx (fun _ => ?_) | refine zAp (fun _ => ?_))
    refine ac_draw [1, 1, 1, 1, 1, 1, 1, 1, 1, 1, 1, 1, 1, 2, 1] [0, 1, 2, 3, 4, 5, 6, 7, 8, 9, 10, 11, 12, 13, 14] (by kernel_rfl) (by kernel_rfl) ?_
    refine gW ?_
    apply w_q; (focus exact rfl); (focus exact rfl); focus (intro _; (refine lo_call hfa rfl (by repeat (first | exact rzs_nil | apply rzs_cons | exact rz_c | exact rz_nil rfl | apply rz_agg | exact rz_own rfl | apply rz_fn | exact rz_ptr rfl | apply rz_tup)) ?_; rintro _ rfl); exact det_refl)
    apply w_q; (focus exact rfl); (focus exact rfl); focus (intro _; (refine zCat ?_); exact det_refl)
    refine gW ?_
    apply w_q; (focus exact rfl); (focus exact rfl); focus (intro _; (refine zCat ?_); exact det_refl)
    refine gW ?_
    apply w_l; (focus exact rfl); (focus exact rfl); (refine zAp (fun _ => ?_))
    refine gW ?_
    refine w_nil ?_
    repeat (first | refine gG ?_ | refine zN1 (fun hlen => ?_) | refine zN2 (fun hlen => ?_) | refine zAl (fun _ => ?_) | refine zBx (fun _ => ?_) | refine zAp (fun _ => ?_))
    exact ⟨(i + 1, _, _), hk', by simp only; omega, x_wkd 3 ⟨rfl, rfl, rfl, trivial⟩ (by simp only [hsn, hsl, hsn2, hsl2]; rfl) (by repeat (first | exact ag_refl | refine ag_upd rfl ?_ | refine ag_at rfl rfl ?_))⟩
  · have hk' : i = l.length := by have : ¬ i < l.length := by simpa using h
                                  omega
    subst hk'
    rw [List.take_length] at *
    clear hlk
    refine x_frz hX 4 rfl rfl rfl rfl ?_
    generalize joinS (l.map Fu.name) ⟨#[44, 32]⟩ = jx at *
    repeat (first | refine gG ?_ | refine zN1 (fun hlen => ?_) | refine zN2 (fun hlen => ?_) | refine zAl (fun _ => ?_) | refine zBx (fun _ => ?_) | refine zAp (fun _ => ?_))
    refine ac_draw [1, 1, 1, 1, 1, 1, 1, 1, 1, 1, 1, 1, 2, 1] [0, 1, 2, 3, 4, 5, 6, 7, 8, 9, 10, 11, 12, 13] (by kernel_rfl) (by kernel_rfl) ?_
    refine gW ?_
    apply w_q; (focus exact rfl); (focus exact rfl); focus (intro _; (refine zCat ?_); exact det_refl)
    apply w_q; (focus exact rfl); (focus exact rfl); focus (intro _; (refine zCat ?_); exact det_refl)
    refine gW ?_
    apply w_q; (focus exact rfl); (focus exact rfl); focus (intro _; (refine lo_call hj rfl (by repeat (first | exact rzs_nil | apply rzs_cons | exact rz_c | exact rz_nil rfl | apply rz_agg | exact rz_own rfl | apply rz_fn | exact rz_ptr rfl | apply rz_tup)) ?_; rintro _ rfl); exact det_refl)
    apply w_q; (focus exact rfl); (focus exact rfl); focus (intro _; (refine zCat ?_); exact det_refl)
    refine gW ?_
    apply w_l; (focus exact rfl); (focus exact rfl); (refine zAp (fun _ => ?_))
    refine gW ?_
    refine w_nil ?_
    repeat (first | refine gG ?_ | refine zN1 (fun hlen => ?_) | refine zN2 (fun hlen => ?_) | refine zAl (fun _ => ?_) | refine zBx (fun _ => ?_) | refine zAp (fun _ => ?_))
    first | refine zR ?_ | refine zQ ?_
    rw [En.row, List.length_append, List.flatMap_append]
    rfl
set_option maxRecDepth 100000 in
set_option maxHeartbeats 1000000 in
theorem isNaN_af (s : ByteArray) : AF Tryd.prog 47 [.lit (.string s)] (· = .lit (.bool false)) := by
  have d : (!decide (s = s)) = false := by rw [decide_eq_true rfl]; rfl
  refine af_enter tok Tryd.func47 Tryd.ntmps47 Tryd.results47 rfl (by kernel_rfl) rfl rfl fun F hX => ?_
  repeat (first | refine gG ?_)
  first | refine zR ?_ | refine zQ ?_
  rw [d]
  rfl
theorem gtr_eq (a b : ByteArray) : (!(strLt a b || decide (a = b))) = strLt b a := by
  cases h1 : strLt a b
  · cases h2 : strLt b a
    · rw [decide_eq_true (strLt_eq h1 h2)]; rfl
    · rw [decide_eq_false (fun e => by rw [e, strLt_self] at h2; cases h2)]; rfl
  · rw [strLt_not h1]; rfl
set_option maxRecDepth 100000 in
set_option maxHeartbeats 1000000 in
theorem compare_af (a b : ByteArray) : AF Tryd.prog 35 [.lit (.string a), .lit (.string b)] (· = .lit (.int .i64 (cmpS a b))) := by
  have h1 := isNaN_af a
  have h2 := isNaN_af b
  unfold cmpS
  refine af_enter tok Tryd.func35 Tryd.ntmps35 Tryd.results35 rfl (by kernel_rfl) rfl rfl fun F hX => ?_
  repeat (first | refine gG ?_)
  refine zCall (h1) ?_
  rintro _ rfl
  repeat (first | refine gG ?_)
  refine zCall (h2) ?_
  rintro _ rfl
  repeat (first | refine gG ?_)
  refine x_cond rfl (fun h => ?_) (fun h => ?_)
  · have hab : strLt a b = true := h
    rw [if_pos hab]
    clear h
    repeat (first | refine gG ?_)
    first | refine zR ?_ | refine zQ ?_
    rfl
  · have hab : strLt a b = false := h
    rw [hab, if_neg (by decide)]
    clear h
    repeat (first | refine gG ?_)
    refine x_cond rfl (fun h => ?_) (fun h => ?_)
    · have hba : strLt b a = true := (gtr_eq a b).symm.trans h
      rw [if_pos hba]
      clear h
      repeat (first | refine gG ?_)
      first | refine zR ?_ | refine zQ ?_
      rfl
    · have hba : strLt b a = false := (gtr_eq a b).symm.trans h
      rw [hba, if_neg (by decide)]
      clear h
      repeat (first | refine gG ?_)
      first | refine zR ?_ | refine zQ ?_
      rfl
set_option maxRecDepth 100000 in
set_option maxHeartbeats 1000000 in
theorem or_af (x y : Int) : AF Tryd.prog 34 [.row 2 1 [.lit (.int .i64 x), .lit (.int .i64 y)]] (· = .lit (.int .i64 (if x = 0 then y else x))) := by
  have d2 : decide ((0 : Int) < 2) = true := rfl
  have d3 : decide ((1 : Int) < 2) = true := rfl
  have d4 : decide ((2 : Int) < 2) = false := rfl
  refine af_enter tok Tryd.func34 Tryd.ntmps34 Tryd.results34 rfl (by kernel_rfl) rfl rfl fun F hX => ?_
  repeat (first | refine gG ?_ | refine zN1 (fun hlen => ?_) | refine zN2 (fun hlen => ?_))
  refine x_loop [2, 5, 8, 9, 10, 11, 12, 13, 14, 15, 16] (fun k : Nat => [(8, .c (.lit (.int .i64 (k : Nat))))]) (fun _ => []) (fun k => k ≤ 2 ∧ (1 ≤ k → x = 0) ∧ (2 ≤ k → y = 0)) (fun k => 2 - k) 0 ⟨by omega, by omega, by omega⟩ ⟨rfl, trivial⟩ rfl ?_
  rintro k ⟨hk, hx, hy⟩
  by_cases k0 : k = 0
  · subst k0
    repeat (first | refine gG ?_ | refine zN1 (fun hlen => ?_) | refine zN2 (fun hlen => ?_))
    refine zIx 0 (show 0 < 2 by omega) ?_
    repeat (first | refine gG ?_ | refine zN1 (fun hlen => ?_) | refine zN2 (fun hlen => ?_))
    refine x_cond rfl (fun h => ?_) (fun h => ?_)
    · have h1 : ¬ x = 0 := by simpa using h
      rw [if_neg h1]
      repeat (first | refine gG ?_ | refine zN1 (fun hlen => ?_) | refine zN2 (fun hlen => ?_))
      first | refine zR ?_ | refine zQ ?_
      rfl
    · have h1 : x = 0 := by simpa using h
      repeat (first | refine gG ?_ | refine zN1 (fun hlen => ?_) | refine zN2 (fun hlen => ?_))
      exact ⟨0 + 1, ⟨by omega, fun _ => h1, by omega⟩, by omega, x_wkd 0 ⟨rfl, trivial⟩ rfl (by repeat (first | exact ag_refl | refine ag_upd rfl ?_ | refine ag_at rfl rfl ?_))⟩
  by_cases k1 : k = 1
  · subst k1
    rw [if_pos (hx (by omega))]
    repeat (first | refine gG ?_ | refine zN1 (fun hlen => ?_) | refine zN2 (fun hlen => ?_))
    refine zIx 1 (show 1 < 2 by omega) ?_
    repeat (first | refine gG ?_ | refine zN1 (fun hlen => ?_) | refine zN2 (fun hlen => ?_))
    refine x_cond rfl (fun h => ?_) (fun h => ?_)
    · repeat (first | refine gG ?_ | refine zN1 (fun hlen => ?_) | refine zN2 (fun hlen => ?_))
      first | refine zR ?_ | refine zQ ?_
      rfl
    · have h1 : y = 0 := by simpa using h
      repeat (first | refine gG ?_ | refine zN1 (fun hlen => ?_) | refine zN2 (fun hlen => ?_))
      exact ⟨1 + 1, ⟨by omega, fun _ => hx (by omega), fun _ => h1⟩, by omega, x_wkd 0 ⟨rfl, trivial⟩ rfl (by repeat (first | exact ag_refl | refine ag_upd rfl ?_ | refine ag_at rfl rfl ?_))⟩
  have hk2 : k = 2 := by omega
  subst hk2
  rw [if_pos (hx (by omega)), hy (by omega)]
  repeat (first | refine gG ?_ | refine zN1 (fun hlen => ?_) | refine zN2 (fun hlen => ?_))
  first | refine zR ?_ | refine zQ ?_
  rfl
def enOk (e : En) : Prop := 1 ≤ e.sort ∧ e.sort ≤ 5
set_option maxRecDepth 100000 in
set_option maxHeartbeats 1000000 in
theorem cmpEn : CmpOk enOk 33 [] := by
  rintro ⟨na, sa, ia, la⟩ ⟨nb, sb, ib, lb⟩ ⟨h1, h2⟩ ⟨h3, h4⟩
  dsimp only at h1 h2 h3 h4
  have hc := compare_af na nb
  have ho := or_af (cmpS na nb) (sa - sb)
  have hE : enC ⟨na, sa, ia, la⟩ ⟨nb, sb, ib, lb⟩ = (if cmpS na nb = 0 then sa - sb else cmpS na nb) := rfl
  rw [hE]
  dsimp only [En.ts]
  generalize cmpS na nb = cc at *
  refine af_enter tok Tryd.func33 Tryd.ntmps33 Tryd.results33 rfl (by kernel_rfl) rfl rfl fun F hX => ?_
  repeat (first | refine gG ?_ | refine zSub ?_ | refine zBx (fun _ => ?_))
  refine ac_draw [1, 1, 1, 1, 1, 1, 1, 1, 1, 1, 1, 1, 1] [0, 1, 2, 3, 4, 5, 6, 7, 8, 9, 10, 11, 12] (by kernel_rfl) (by kernel_rfl) ?_
  refine gW ?_
  apply w_q; (focus exact rfl); (focus exact rfl); focus (intro _; (refine lo_call hc rfl (by repeat (first | exact rzs_nil | apply rzs_cons | exact rz_c | exact rz_nil rfl | apply rz_agg | exact rz_own rfl | apply rz_fn | exact rz_ptr rfl | apply rz_tup)) ?_; rintro _ rfl); exact det_refl)
  refine gW ?_
  apply w_q; (focus exact rfl); (focus exact rfl); focus (intro _; (refine zSub ?_); exact det_refl)
  refine gW ?_
  apply w_q; (focus exact rfl); (focus exact rfl); focus (intro _; (refine lo_call ho rfl (by repeat (first | exact rzs_nil | apply rzs_cons | exact rz_c | exact rz_nil rfl | apply rz_agg | exact rz_own rfl | apply rz_fn | exact rz_ptr rfl | apply rz_tup)) ?_; rintro _ rfl); exact det_refl)
  refine gW ?_
  refine w_nil ?_
  repeat (first | refine gG ?_ | refine zSub ?_ | refine zBx (fun _ => ?_))
  first | refine zR ?_ | refine zQ ?_
  rfl
end Go.Proofs.YtbfomgchjlkopaaDoor
namespace Go.Proofs.YtbfomgchjlkopaaDoor
open Go.RowKit
theorem enf_snoc {α : Type} (f : α → List En) {l : List α} {k : Nat} {a : α} (h : l[k]? = some a) : (l.take (k + 1)).flatMap f = (l.take k).flatMap f ++ f a := by
  obtain ⟨hk, rfl⟩ := List.getElem?_eq_some_iff.1 h
  rw [List.take_succ_eq_append_getElem hk, List.flatMap_append]
  simp
theorem enm_snoc {α : Type} (f : α → En) {l : List α} {k : Nat} {a : α} (h : l[k]? = some a) : (l.take (k + 1)).map f = (l.take k).map f ++ [f a] := by
  obtain ⟨hk, rfl⟩ := List.getElem?_eq_some_iff.1 h
  rw [List.take_succ_eq_append_getElem hk, List.map_append]
  simp
theorem fl_app (a b : List En) : (a ++ b).flatMap En.ts = a.flatMap En.ts ++ b.flatMap En.ts := List.flatMap_append
theorem enf_le {α : Type} (f : α → List En) (l : List α) (k : Nat) : ((l.take k).flatMap f).length ≤ (l.flatMap f).length := by
  have h : l.flatMap f = (l.take k).flatMap f ++ (l.drop k).flatMap f := by rw [← List.flatMap_append, List.take_append_drop]
  rw [h, List.length_append]
  omega
theorem en_rng {n i l : ByteArray} {z : Int} (h : 1 ≤ z ∧ z ≤ 5) : enOk ⟨n, z, i, l⟩ := h
theorem daE_ok (d : Da) : ∀ e ∈ daE d, enOk e := by
  intro e h
  rcases List.mem_append.1 h with h | h
  · obtain ⟨m, _, rfl⟩ := List.mem_map.1 h
    exact en_rng (by decide)
  · obtain rfl := List.mem_singleton.1 h
    exact en_rng (by decide)
theorem trE_ok (d : Tr) : ∀ e ∈ trE d, enOk e := by
  intro e h
  rcases List.mem_append.1 h with h | h
  · obtain ⟨m, _, rfl⟩ := List.mem_map.1 h
    exact en_rng (by decide)
  · obtain rfl := List.mem_singleton.1 h
    exact en_rng (by decide)
theorem entr_ok (p : Pr) : ∀ e ∈ entr p, enOk e := by
  intro e h
  simp only [entr, List.mem_append, List.mem_flatMap, List.mem_map] at h
  rcases h with ((⟨d, _, h⟩ | ⟨t, _, h⟩) | ⟨f, _, rfl⟩) | ⟨a, _, rfl⟩
  · exact daE_ok d e h
  · exact trE_ok t e h
  · exact en_rng (by decide)
  · exact en_rng (by decide)
theorem entS_len (p : Pr) : (entS p).length = (entr p).length := (stabL_perm enC_ok (entr p)).length_eq
set_option maxRecDepth 100000 in
set_option maxHeartbeats 8000000 in
theorem entries_ag (p : Pr) (hp : p.size ≤ 1048576) : AG Tryd.prog 12 [.c p.t] [] (fun r hs => ∃ b0 v cs, r = .own 1 v ∧ hs = [.box b0 29 cs, .row v 40 4 (entS p).length ((entS p).flatMap En.ts)]) := by
  have hsl0 := entS_len p
  have hok := entr_ok p
  have hln := entr_len p
  have hst : ∀ w, _ := fun w => sortStable_ag w enOk 33 [] cmpEn (entr p) (by omega) hok
  rw [hsl0]
  unfold entS
  obtain ⟨nm, ve, us, ds, ts, ims, fs, acs⟩ := p
  have h0 : nm.size + Us.sizes us + Da.sizes ds + Tr.sizes ts + Im.sizes ims + Fu.sizes fs + Ac.sizes acs + 1 ≤ 1048576 := hp
  have l1 := Da.len_sizes ds
  have l2 := Tr.len_sizes ts
  have l3 := Fu.len_sizes fs
  have l4 := Ac.len_sizes acs
  have hE : entr ⟨nm, ve, us, ds, ts, ims, fs, acs⟩ = ds.flatMap daE ++ ts.flatMap trE ++ fs.map fuE ++ acs.map acE := rfl
  rw [hE] at hln hst ⊢
  clear hE hok hsl0 hp
  have m1 : (ds.flatMap daE).length ≤ 1048576 := by simp only [List.length_append] at hln; simp only [Pr.size] at hln; omega
  have m2 : (ts.flatMap trE).length ≤ 1048576 := by simp only [List.length_append] at hln; simp only [Pr.size] at hln; omega
  have n1 : ∀ k, ((ds.take k).flatMap daE).length ≤ 1048576 := fun k => Nat.le_trans (enf_le daE ds k) m1
  have n2 : ∀ k, ((ts.take k).flatMap trE).length ≤ 1048576 := fun k => Nat.le_trans (enf_le trE ts k) m2
  refine ag_enter (2) tok Tryd.func12 Tryd.ntmps12 Tryd.results12 rfl (by kernel_rfl) rfl fun F => ?_
  repeat (first | refine gG ?_ | refine zN1 (fun hlen => ?_) | refine zN2 (fun hlen => ?_) | refine zAl (fun _ => ?_) | refine zBx (fun _ => ?_) | refine zAp (fun _ => ?_))
  rename_i b0
  refine x_own 3 40 4 rfl rfl rfl rfl rfl ?_
  refine x_loop [3, 5, 15, 16, 17, 18, 19, 20, 21, 22, 23] (fun y : Nat × Value => [(15, .c (.lit (.int .i64 y.1))), (3, .own 1 y.2)]) (fun y => [.box b0 29 [.c (.lit (.string nm)), .c (.lit (.int .i64 ve)), .c (Us.row us), .c (Da.row ds), .c (Tr.row ts), .c (Im.row ims), .c (Fu.row fs), .c (Ac.row acs)], .row y.2 40 4 ((ds.take y.1).flatMap daE).length (((ds.take y.1).flatMap daE).flatMap En.ts)]) (fun y => y.1 ≤ ds.length) (fun y => ds.length - y.1) (0, .slice none 0 0) (Nat.zero_le _) ⟨rfl, rfl, trivial⟩ rfl ?_
  rintro ⟨k, v1⟩ hk
  dsimp only at hk ⊢
  have hlk : ((ds.take k).flatMap daE).length ≤ 4194304 := by
    try simp only [List.length_append, List.length_map, List.length_take]
    have := n1 k; omega
  repeat (first | refine gG ?_ | refine zN1 (fun hlen => ?_) | refine zN2 (fun hlen => ?_) | refine zAl (fun _ => ?_) | refine zBx (fun _ => ?_) | refine zAp (fun _ => ?_))
  refine x_cond rfl (fun h => ?_) (fun h => ?_)
  · have hk' : k < ds.length := by simpa using h
    obtain ⟨a, ha⟩ := nth hk'
    have haz := Da.size_mem (List.mem_of_getElem? ha)
    have hfa := dataEntries_af a (by omega)
    have hsn : ((ds.take (k + 1)).flatMap daE).flatMap En.ts = ((ds.take k).flatMap daE).flatMap En.ts ++ (daE a).flatMap En.ts := by rw [enf_snoc daE ha, fl_app]
    have hsl : ((ds.take (k + 1)).flatMap daE).length = ((ds.take k).flatMap daE).length + (daE a).length := by rw [enf_snoc daE ha, List.length_append]
    have hda := daE_len a
    have hrw : En.row (daE a) = .row (daE a).length 4 ((daE a).flatMap En.ts) := rfl
    rw [hrw] at hfa
    repeat (first | refine gG ?_ | refine zN1 (fun hlen => ?_) | refine zN2 (fun hlen => ?_) | refine zAl (fun _ => ?_) | refine zBx (fun _ => ?_) | refine zAp (fun _ => ?_))
    refine zIx (k) (hk') ?_
    repeat (first | refine gG ?_ | refine zN1 (fun hlen => ?_) | refine zN2 (fun hlen => ?_) | refine zAl (fun _ => ?_) | refine zBx (fun _ => ?_) | refine zAp (fun _ => ?_))
    refine zEl (Da.at ha) (Da.ts_len a) ?_
    generalize daE a = ax at *
    obtain ⟨na, pa, ma⟩ := a
    repeat (first | refine gG ?_ | refine zN1 (fun hlen => ?_) | refine zN2 (fun hlen => ?_) | refine zAl (fun _ => ?_) | refine zBx (fun _ => ?_) | refine zAp (fun _ => ?_))
    refine zCall (hfa) ?_
    rintro _ rfl
    repeat (first | refine gG ?_ | refine zN1 (fun hlen => ?_) | refine zN2 (fun hlen => ?_) | refine zAl (fun _ => ?_) | refine zBx (fun _ => ?_) | refine zAp (fun _ => ?_))
    exact ⟨(k + 1, _), hk', by simp only; omega, x_wkd 2 ⟨rfl, rfl, trivial⟩ (by rw [hsn, hsl]; rfl) (by repeat (first | exact ag_refl | refine ag_upd rfl ?_ | refine ag_at rfl rfl ?_))⟩
  have hk' : k = ds.length := by
    have : ¬ k < ds.length := by simpa using h
    omega
  subst hk'
  rw [List.take_length] at *
  clear hk hlk h
  repeat (first | refine gG ?_ | refine zN1 (fun hlen => ?_) | refine zN2 (fun hlen => ?_) | refine zAl (fun _ => ?_) | refine zBx (fun _ => ?_) | refine zAp (fun _ => ?_))
  refine x_loop [3, 7, 27, 28, 29, 30, 31, 32, 33, 34, 35] (fun y : Nat × Value => [(27, .c (.lit (.int .i64 y.1))), (3, .own 1 y.2)]) (fun y => [.box b0 29 [.c (.lit (.string nm)), .c (.lit (.int .i64 ve)), .c (Us.row us), .c (Da.row ds), .c (Tr.row ts), .c (Im.row ims), .c (Fu.row fs), .c (Ac.row acs)], .row y.2 40 4 (ds.flatMap daE ++ (ts.take y.1).flatMap trE).length ((ds.flatMap daE ++ (ts.take y.1).flatMap trE).flatMap En.ts)]) (fun y => y.1 ≤ ts.length) (fun y => ts.length - y.1) (0, v1) (Nat.zero_le _) ⟨rfl, rfl, trivial⟩ (by simp) ?_
  rintro ⟨k, v2⟩ hk
  dsimp only at hk ⊢
  have hlk : (ds.flatMap daE ++ (ts.take k).flatMap trE).length ≤ 4194304 := by
    try simp only [List.length_append, List.length_map, List.length_take]
    have := n2 k; omega
  repeat (first | refine gG ?_ | refine zN1 (fun hlen => ?_) | refine zN2 (fun hlen => ?_) | refine zAl (fun _ => ?_) | refine zBx (fun _ => ?_) | refine zAp (fun _ => ?_))
  refine x_cond rfl (fun h => ?_) (fun h => ?_)
  · have hk' : k < ts.length := by simpa using h
    obtain ⟨a, ha⟩ := nth hk'
    have haz := Tr.size_mem (List.mem_of_getElem? ha)
    have hfa := traitEntries_af a (by omega)
    have hsn : (ds.flatMap daE ++ (ts.take (k + 1)).flatMap trE).flatMap En.ts = (ds.flatMap daE ++ (ts.take k).flatMap trE).flatMap En.ts ++ (trE a).flatMap En.ts := by rw [enf_snoc trE ha, ← List.append_assoc, fl_app (_ ++ _)]
    have hsl : (ds.flatMap daE ++ (ts.take (k + 1)).flatMap trE).length = (ds.flatMap daE ++ (ts.take k).flatMap trE).length + (trE a).length := by rw [enf_snoc trE ha, ← List.append_assoc, List.length_append (bs := trE a)]
    have hda := trE_len a
    have hrw : En.row (trE a) = .row (trE a).length 4 ((trE a).flatMap En.ts) := rfl
    rw [hrw] at hfa
    repeat (first | refine gG ?_ | refine zN1 (fun hlen => ?_) | refine zN2 (fun hlen => ?_) | refine zAl (fun _ => ?_) | refine zBx (fun _ => ?_) | refine zAp (fun _ => ?_))
    refine zIx (k) (hk') ?_
    repeat (first | refine gG ?_ | refine zN1 (fun hlen => ?_) | refine zN2 (fun hlen => ?_) | refine zAl (fun _ => ?_) | refine zBx (fun _ => ?_) | refine zAp (fun _ => ?_))
    refine zEl (Tr.at ha) (Tr.ts_len a) ?_
    generalize trE a = ax at *
    obtain ⟨na, pa⟩ := a
    repeat (first | refine gG ?_ | refine zN1 (fun hlen => ?_) | refine zN2 (fun hlen => ?_) | refine zAl (fun _ => ?_) | refine zBx (fun _ => ?_) | refine zAp (fun _ => ?_))
    refine zCall (hfa) ?_
    rintro _ rfl
    repeat (first | refine gG ?_ | refine zN1 (fun hlen => ?_) | refine zN2 (fun hlen => ?_) | refine zAl (fun _ => ?_) | refine zBx (fun _ => ?_) | refine zAp (fun _ => ?_))
    exact ⟨(k + 1, _), hk', by simp only; omega, x_wkd 2 ⟨rfl, rfl, trivial⟩ (by rw [hsn, hsl]; rfl) (by repeat (first | exact ag_refl | refine ag_upd rfl ?_ | refine ag_at rfl rfl ?_))⟩
  have hk' : k = ts.length := by
    have : ¬ k < ts.length := by simpa using h
    omega
  subst hk'
  rw [List.take_length] at *
  clear hk hlk h
  repeat (first | refine gG ?_ | refine zN1 (fun hlen => ?_) | refine zN2 (fun hlen => ?_) | refine zAl (fun _ => ?_) | refine zBx (fun _ => ?_) | refine zAp (fun _ => ?_))
  refine x_loop [3, 9, 39, 40, 41, 42, 43, 44, 45, 46, 47, 48, 49, 50, 51] (fun y : Nat × Value => [(39, .c (.lit (.int .i64 y.1))), (3, .own 1 y.2)]) (fun y => [.box b0 29 [.c (.lit (.string nm)), .c (.lit (.int .i64 ve)), .c (Us.row us), .c (Da.row ds), .c (Tr.row ts), .c (Im.row ims), .c (Fu.row fs), .c (Ac.row acs)], .row y.2 40 4 (ds.flatMap daE ++ ts.flatMap trE ++ (fs.take y.1).map fuE).length ((ds.flatMap daE ++ ts.flatMap trE ++ (fs.take y.1).map fuE).flatMap En.ts)]) (fun y => y.1 ≤ fs.length) (fun y => fs.length - y.1) (0, v2) (Nat.zero_le _) ⟨rfl, rfl, trivial⟩ (by simp) ?_
  rintro ⟨k, v3⟩ hk
  dsimp only at hk ⊢
  have hlk : (ds.flatMap daE ++ ts.flatMap trE ++ (fs.take k).map fuE).length ≤ 4194304 := by
    try simp only [List.length_append, List.length_map, List.length_take]
    omega
  repeat (first | refine gG ?_ | refine zN1 (fun hlen => ?_) | refine zN2 (fun hlen => ?_) | refine zAl (fun _ => ?_) | refine zBx (fun _ => ?_) | refine zAp (fun _ => ?_))
  refine x_cond rfl (fun h => ?_) (fun h => ?_)
  · have hk' : k < fs.length := by simpa using h
    obtain ⟨a, ha⟩ := nth hk'
    have haz := Fu.size_mem (List.mem_of_getElem? ha)
    have hfa := function_af a (by omega)
    have hfz := funS_size a
    have hsn : (ds.flatMap daE ++ ts.flatMap trE ++ (fs.take (k + 1)).map fuE).flatMap En.ts = (ds.flatMap daE ++ ts.flatMap trE ++ (fs.take k).map fuE).flatMap En.ts ++ [.lit (.string a.name), .lit (.int .i64 4), .lit (.string ⟨#[]⟩), .lit (.string (funS a))] := by
      rw [enm_snoc fuE ha, ← List.append_assoc, fl_app (_ ++ _)]
      rfl
    have hsl : (ds.flatMap daE ++ ts.flatMap trE ++ (fs.take (k + 1)).map fuE).length = (ds.flatMap daE ++ ts.flatMap trE ++ (fs.take k).map fuE).length + 1 := by
      rw [enm_snoc fuE ha, ← List.append_assoc, List.length_append (bs := [fuE a])]
      rfl
    repeat (first | refine gG ?_ | refine zN1 (fun hlen => ?_) | refine zN2 (fun hlen => ?_) | refine zAl (fun _ => ?_) | refine zBx (fun _ => ?_) | refine zAp (fun _ => ?_))
    refine zIx (k) (hk') ?_
    repeat (first | refine gG ?_ | refine zN1 (fun hlen => ?_) | refine zN2 (fun hlen => ?_) | refine zAl (fun _ => ?_) | refine zBx (fun _ => ?_) | refine zAp (fun _ => ?_))
    refine zEl (Fu.at ha) (Fu.ts_len a) ?_
    generalize funS a = ax at *
    obtain ⟨na, ps, ns, ys, ⟨ka, ta, la⟩, ⟨kb, nb, tb, nsb, ysb, lb, rsb, pb⟩⟩ := a
    dsimp only at hsn
    repeat (first | refine gG ?_ | refine zN1 (fun hlen => ?_) | refine zN2 (fun hlen => ?_) | refine zAl (fun _ => ?_) | refine zBx (fun _ => ?_) | refine zAp (fun _ => ?_))
    refine ac_draw [1, 1, 1, 1, 1, 1, 1, 2, 1] [0, 1, 2, 3, 4, 5, 6, 7, 8] (by kernel_rfl) (by kernel_rfl) ?_
    refine gW ?_
    apply w_q; (focus exact rfl); (focus exact rfl); focus (intro _; (refine lo_call hfa rfl (by repeat (first | exact rzs_nil | apply rzs_cons | exact rz_c | exact rz_nil rfl | apply rz_agg | exact rz_own rfl | apply rz_fn | exact rz_ptr rfl | apply rz_tup)) ?_; rintro _ rfl); exact det_refl)
    refine gW ?_
    apply w_l; (focus exact rfl); (focus exact rfl); (refine zAp (fun _ => ?_))
    refine gW ?_
    refine w_nil ?_
    repeat (first | refine gG ?_ | refine zN1 (fun hlen => ?_) | refine zN2 (fun hlen => ?_) | refine zAl (fun _ => ?_) | refine zBx (fun _ => ?_) | refine zAp (fun _ => ?_))
    exact ⟨(k + 1, _), hk', by simp only; omega, x_wkd 2 ⟨rfl, rfl, trivial⟩ (by rw [hsn, hsl]; rfl) (by repeat (first | exact ag_refl | refine ag_upd rfl ?_ | refine ag_at rfl rfl ?_))⟩
  have hk' : k = fs.length := by
    have : ¬ k < fs.length := by simpa using h
    omega
  subst hk'
  rw [List.take_length] at *
  clear hk hlk h
  repeat (first | refine gG ?_ | refine zN1 (fun hlen => ?_) | refine zN2 (fun hlen => ?_) | refine zAl (fun _ => ?_) | refine zBx (fun _ => ?_) | refine zAp (fun _ => ?_))
  refine x_loop [3, 11, 55, 56, 57, 58, 59, 60, 61, 62, 63, 64, 65, 66, 67, 68, 69, 70, 71, 72, 73, 74, 75, 76, 77, 78, 79] (fun y : Nat × Value => [(55, .c (.lit (.int .i64 y.1))), (3, .own 1 y.2)]) (fun y => [.box b0 29 [.c (.lit (.string nm)), .c (.lit (.int .i64 ve)), .c (Us.row us), .c (Da.row ds), .c (Tr.row ts), .c (Im.row ims), .c (Fu.row fs), .c (Ac.row acs)], .row y.2 40 4 (ds.flatMap daE ++ ts.flatMap trE ++ fs.map fuE ++ (acs.take y.1).map acE).length ((ds.flatMap daE ++ ts.flatMap trE ++ fs.map fuE ++ (acs.take y.1).map acE).flatMap En.ts)]) (fun y => y.1 ≤ acs.length) (fun y => acs.length - y.1) (0, v3) (Nat.zero_le _) ⟨rfl, rfl, trivial⟩ (by simp) ?_
  rintro ⟨k, v4⟩ hk
  dsimp only at hk ⊢
  have hlk : (ds.flatMap daE ++ ts.flatMap trE ++ fs.map fuE ++ (acs.take k).map acE).length ≤ 4194304 := by
    try simp only [List.length_append, List.length_map, List.length_take]
    omega
  repeat (first | refine gG ?_ | refine zN1 (fun hlen => ?_) | refine zN2 (fun hlen => ?_) | refine zAl (fun _ => ?_) | refine zBx (fun _ => ?_) | refine zAp (fun _ => ?_))
  refine x_cond rfl (fun h => ?_) (fun h => ?_)
  · have hk' : k < acs.length := by simpa using h
    obtain ⟨a, ha⟩ := nth hk'
    have haz := Ac.size_mem (List.mem_of_getElem? ha)
    have haz' := haz
    simp only [Ac.size] at haz'
    have hf1 := fields_af a.names a.types (by omega) (by omega)
    have hf2 := pageType_af a.msg (by omega)
    have z2 := fldsS_size a.names a.types
    have z3 := a.msg.text_size
    have hsn : (ds.flatMap daE ++ ts.flatMap trE ++ fs.map fuE ++ (acs.take (k + 1)).map acE).flatMap En.ts = (ds.flatMap daE ++ ts.flatMap trE ++ fs.map fuE ++ (acs.take k).map acE).flatMap En.ts ++ [.lit (.string a.name), .lit (.int .i64 5), .lit (.string ⟨#[]⟩), .lit (.string (⟨#[97, 99, 116, 111, 114, 32]⟩ ++ a.name ++ fldsS a.names a.types ++ ⟨#[58, 32]⟩ ++ a.msg.text))] := by
      rw [enm_snoc acE ha, ← List.append_assoc, fl_app (_ ++ _)]
      rfl
    have hsl : (ds.flatMap daE ++ ts.flatMap trE ++ fs.map fuE ++ (acs.take (k + 1)).map acE).length = (ds.flatMap daE ++ ts.flatMap trE ++ fs.map fuE ++ (acs.take k).map acE).length + 1 := by
      rw [enm_snoc acE ha, ← List.append_assoc, List.length_append (bs := [acE a])]
      rfl
    repeat (first | refine gG ?_ | refine zN1 (fun hlen => ?_) | refine zN2 (fun hlen => ?_) | refine zAl (fun _ => ?_) | refine zBx (fun _ => ?_) | refine zAp (fun _ => ?_))
    refine zIx (k) (hk') ?_
    repeat (first | refine gG ?_ | refine zN1 (fun hlen => ?_) | refine zN2 (fun hlen => ?_) | refine zAl (fun _ => ?_) | refine zBx (fun _ => ?_) | refine zAp (fun _ => ?_))
    refine zEl (Ac.at ha) (Ac.ts_len a) ?_
    obtain ⟨na, ns, ys, ma, ⟨kb, nb, tb, nsb, ysb, lb, rsb, pb⟩⟩ := a
    dsimp only at hsn hf1 hf2 z2 z3 haz'
    generalize fldsS ns ys = fx at *
    generalize ma.text = mx at *
    obtain ⟨ka, ta, la⟩ := ma
    repeat (first | refine gG ?_ | refine zN1 (fun hlen => ?_) | refine zN2 (fun hlen => ?_) | refine zAl (fun _ => ?_) | refine zBx (fun _ => ?_) | refine zAp (fun _ => ?_))
    refine ac_drawB [0, 0, 2, 0, 8, 24, 0, 64, 0, 256, 960, 2040, 4088, 0, 8192, 26560, 65528, 131070, 262142, 524287, 1048575] [1, 1, 1, 1, 1, 1, 1, 1, 1, 1, 1, 1, 1, 1, 1, 1, 1, 1, 1, 2, 1] [0, 1, 2, 3, 4, 5, 6, 7, 8, 9, 10, 11, 12, 13, 14, 15, 16, 17, 18, 19, 20] (by kernel_rfl) (by kernel_rfl) ?_
    refine gW ?_
    apply w_q; (focus exact rfl); (focus exact rfl); focus (intro _; (refine zCat ?_); exact det_refl)
    refine gW ?_
    apply w_q; (focus exact rfl); (focus exact rfl); focus (intro _; (refine lo_call hf1 rfl (by repeat (first | exact rzs_nil | apply rzs_cons | exact rz_c | exact rz_nil rfl | apply rz_agg | exact rz_own rfl | apply rz_fn | exact rz_ptr rfl | apply rz_tup)) ?_; rintro _ rfl); exact det_refl)
    apply w_q; (focus exact rfl); (focus exact rfl); focus (intro _; (refine zCat ?_); exact det_refl)
    apply w_q; (focus exact rfl); (focus exact rfl); focus (intro _; (refine zCat ?_); exact det_refl)
    refine gW ?_
    apply w_q; (focus exact rfl); (focus exact rfl); focus (intro _; (refine lo_call hf2 rfl (by repeat (first | exact rzs_nil | apply rzs_cons | exact rz_c | exact rz_nil rfl | apply rz_agg | exact rz_own rfl | apply rz_fn | exact rz_ptr rfl | apply rz_tup)) ?_; rintro _ rfl); exact det_refl)
    apply w_q; (focus exact rfl); (focus exact rfl); focus (intro _; (refine zCat ?_); exact det_refl)
    refine gW ?_
    apply w_l; (focus exact rfl); (focus exact rfl); (refine zAp (fun _ => ?_))
    refine gW ?_
    refine w_nil ?_
    repeat (first | refine gG ?_ | refine zN1 (fun hlen => ?_) | refine zN2 (fun hlen => ?_) | refine zAl (fun _ => ?_) | refine zBx (fun _ => ?_) | refine zAp (fun _ => ?_))
    exact ⟨(k + 1, _), hk', by simp only; omega, x_wkd 2 ⟨rfl, rfl, trivial⟩ (by rw [hsn, hsl]; rfl) (by repeat (first | exact ag_refl | refine ag_upd rfl ?_ | refine ag_at rfl rfl ?_))⟩
  have hk' : k = acs.length := by
    have : ¬ k < acs.length := by simpa using h
    omega
  subst hk'
  rw [List.take_length] at *
  clear hk hlk h
  repeat (first | refine gG ?_ | refine zN1 (fun hlen => ?_) | refine zN2 (fun hlen => ?_) | refine zAl (fun _ => ?_) | refine zBx (fun _ => ?_) | refine zAp (fun _ => ?_))
  refine zCallG [1] (hst v4) ?_
  rintro _ _ ⟨rfl, rfl⟩
  refine ⟨_, _, re_refl, rfl, rfl, ?_⟩
  repeat (first | refine gG ?_ | refine zN1 (fun hlen => ?_) | refine zN2 (fun hlen => ?_) | refine zAl (fun _ => ?_) | refine zBx (fun _ => ?_) | refine zAp (fun _ => ?_))
  refine zG ?_
  exact ⟨_, _, _, rfl, rfl⟩
end Go.Proofs.YtbfomgchjlkopaaDoor
