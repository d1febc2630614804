/-
  Texts of this proof, part 5: Tvf Twb Trv Trv2 Ttv Ttl TlwA Tsv.
-/
import Derived.Test.YthgackidonocpaaQValueSaved4
import Derived.MapKept
namespace Go.Proofs.Ythgackidonocpaa
open Go.RowKit
def big400 (m : Nat) (x : Vd) : Bool := !decide ((400 : Int) < (m : Int)) && bigN x.1 x.2
theorem map_snoc2 {α β : Type} (f : α → β) {l : List α} {k : Nat} {a : α} (h : l[k]? = some a) : (l.take (k + 1)).map f = (l.take k).map f ++ [f a] := by
  obtain ⟨h1, rfl⟩ := List.getElem?_eq_some_iff.1 h
  rw [List.take_succ_eq_append_getElem h1, List.map_append]
  simp
theorem big400_eq (m : Nat) (k n : Int) (t : ByteArray) (l : List V) (d : Nat) : big400 m (.mk k n t l, d) = (!decide ((400 : Int) < (m : Int)) && (!decide ((40 : Int) < (d : Int)) && !decide ((4000 : Int) < (t.size : Int)))) := rfl
theorem big_all {v : V} {all : List Vd} (h : Lev v all all.length) : v.fitB 400 1 = all.all (big400 all.length) := by
  obtain ⟨h1, h2⟩ := h.done
  have h3 : 0 < all.length := by rw [h1]; obtain ⟨k, n, t, l⟩ := v; simp [V.size]
  unfold V.fitB
  rw [← h2 bigN, ← h1]
  by_cases h4 : all.length ≤ 400
  · rw [decide_eq_true h4, Bool.true_and]
    unfold big400
    rw [decide_eq_false (show ¬ (400 : Int) < (all.length : Int) by omega)]
    simp
  · rw [decide_eq_false h4, Bool.false_and]
    symm
    rw [List.all_eq_false]
    obtain ⟨x, hx⟩ := List.exists_mem_of_length_pos h3
    refine ⟨x, hx, ?_⟩
    unfold big400
    rw [decide_eq_true (show (400 : Int) < (all.length : Int) by omega)]
    simp
set_option maxRecDepth 100000 in
set_option maxHeartbeats 4000000 in
theorem valueFault_af (v : V) (hv : v.size ≤ 1048576) : AF Try.prog 18 [v.t] (· = .lit (.int .i64 v.check)) := by
  obtain ⟨k0, n0, t0, l0⟩ := v
  refine af_enter tok Try.func18 Try.ntmps18 Try.results18 rfl (by kernel_rfl) rfl rfl fun F hX => ?_
  repeat (first | refine zNil ?_ | refine zOp ?_ | refine zOpn ?_ | refine zNo ?_ | refine zNon ?_ | refine zUn ?_ | refine zUnn ?_ | refine zYes ?_ | refine zYesn ?_ | (refine zkL ?_; first | refine zL1 ?_ | refine zL2 ?_ | refine zL3 ?_ | refine zLp ?_) | refine zM ?_ | (refine zkF ?_; first | refine zF1 ?_ | refine zF2 ?_ | refine zF3 ?_) | refine zA ?_ | (refine zkB ?_; first | refine zC5 ?_ | refine zC6 ?_ | refine zC1 ?_ | refine zC2 ?_ | refine zC3 ?_ | refine zC4 ?_ | refine zS5 ?_ | refine zS6 ?_ | refine zS1 ?_ | refine zS2 ?_ | refine zS3 ?_ | refine zS4 ?_ | refine zInc ?_ | refine zQ1 ?_ | refine zQ2 ?_ | refine zQ3 ?_ | refine zQ4 ?_ | refine zQ5 ?_ | refine zQ6 ?_) | (refine zkI ?_; first | refine zN1 (fun hlen => ?_) | refine zN2 (fun hlen => ?_) | refine zN3 ?_ | refine zN4 ?_ | refine zAp (fun _ => ?_)) | refine zS ?_ | refine zAl (fun _ => ?_) | refine zBf ?_ | refine zPt ?_ | refine zPf ?_ | refine zE ?_ | refine zEA ?_ | refine zNot ?_ | refine zBd ?_ | refine zFn ?_ | refine zK1 ?_ | refine zK2 ?_ | refine ac_seq ?_ | refine ac_block ?_ | refine ac_region ?_ | refine ac_skip ?_ | refine ac_exit ?_ | refine ac_ret ?_ | refine zT ?_ | refine zF ?_)
  refine zBo (fun u0 => ?_)
  repeat (first | refine zNil ?_ | refine zOp ?_ | refine zOpn ?_ | refine zNo ?_ | refine zNon ?_ | refine zUn ?_ | refine zUnn ?_ | refine zYes ?_ | refine zYesn ?_ | (refine zkL ?_; first | refine zL1 ?_ | refine zL2 ?_ | refine zL3 ?_ | refine zLp ?_) | refine zM ?_ | (refine zkF ?_; first | refine zF1 ?_ | refine zF2 ?_ | refine zF3 ?_) | refine zA ?_ | (refine zkB ?_; first | refine zC5 ?_ | refine zC6 ?_ | refine zC1 ?_ | refine zC2 ?_ | refine zC3 ?_ | refine zC4 ?_ | refine zS5 ?_ | refine zS6 ?_ | refine zS1 ?_ | refine zS2 ?_ | refine zS3 ?_ | refine zS4 ?_ | refine zInc ?_ | refine zQ1 ?_ | refine zQ2 ?_ | refine zQ3 ?_ | refine zQ4 ?_ | refine zQ5 ?_ | refine zQ6 ?_) | (refine zkI ?_; first | refine zN1 (fun hlen => ?_) | refine zN2 (fun hlen => ?_) | refine zN3 ?_ | refine zN4 ?_ | refine zAp (fun _ => ?_)) | refine zS ?_ | refine zAl (fun _ => ?_) | refine zBx (fun _ => ?_) | refine zPt ?_ | refine zPf ?_ | refine zE ?_ | refine zEA ?_ | refine zNot ?_ | refine zBd ?_ | refine zBs ?_ | refine zFn ?_ | refine zK1 ?_ | refine zK2 ?_ | refine ac_seq ?_ | refine ac_block ?_ | refine ac_region ?_ | refine ac_skip ?_ | refine ac_exit ?_ | refine ac_ret ?_ | refine zT ?_ | refine zF ?_)
  refine x_loop [3, 4, 6, 18, 19, 20, 21, 22, 23, 24, 25, 26, 27, 28, 29, 30, 31, 32, 33, 34, 35, 36, 37, 38, 39, 40, 41, 42, 43, 44, 45, 46] (fun y : Nat × List Vd × Value => [(4, .c (.lit (.int .i64 (y.1 : Nat)))), (3, .own 0 y.2.2)]) (fun y => [.row y.2.2 141 5 y.2.1.length (y.2.1.flatMap atTs)])
    (fun y => Lev (.mk k0 n0 t0 l0) y.2.1 y.1) (fun y => (V.mk k0 n0 t0 l0).size - y.1) (0, [(.mk k0 n0 t0 l0, 1)], u0) (Lev.zero _) ⟨rfl, rfl, trivial⟩ rfl ?_
  rintro ⟨i, all, u⟩ hlev
  dsimp only at hlev ⊢
  have hll := hlev.len
  repeat (first | refine zNil ?_ | refine zOp ?_ | refine zOpn ?_ | refine zNo ?_ | refine zNon ?_ | refine zUn ?_ | refine zUnn ?_ | refine zYes ?_ | refine zYesn ?_ | (refine zkL ?_; first | refine zL1 ?_ | refine zL2 ?_ | refine zL3 ?_ | refine zLp ?_) | refine zM ?_ | (refine zkF ?_; first | refine zF1 ?_ | refine zF2 ?_ | refine zF3 ?_) | refine zA ?_ | (refine zkB ?_; first | refine zC5 ?_ | refine zC6 ?_ | refine zC1 ?_ | refine zC2 ?_ | refine zC3 ?_ | refine zC4 ?_ | refine zS5 ?_ | refine zS6 ?_ | refine zS1 ?_ | refine zS2 ?_ | refine zS3 ?_ | refine zS4 ?_ | refine zInc ?_ | refine zQ1 ?_ | refine zQ2 ?_ | refine zQ3 ?_ | refine zQ4 ?_ | refine zQ5 ?_ | refine zQ6 ?_) | (refine zkI ?_; first | refine zN1 (fun hlen => ?_) | refine zN2 (fun hlen => ?_) | refine zN3 ?_ | refine zN4 ?_ | refine zAp (fun _ => ?_)) | refine zS ?_ | refine zAl (fun _ => ?_) | refine zBx (fun _ => ?_) | refine zPt ?_ | refine zPf ?_ | refine zE ?_ | refine zEA ?_ | refine zNot ?_ | refine zBd ?_ | refine zBs ?_ | refine zFn ?_ | refine zK1 ?_ | refine zK2 ?_ | refine ac_seq ?_ | refine ac_block ?_ | refine ac_region ?_ | refine ac_skip ?_ | refine ac_exit ?_ | refine ac_ret ?_ | refine zT ?_ | refine zF ?_)
  refine x_cond rfl (fun h => ?_) (fun h => ?_)
  · have hi' : i < all.length := by simpa using h
    obtain ⟨x, hx⟩ := nth hi'
    have hst := hlev.step hx
    have hsl := hst.len
    have hdp := hlev.deep x (List.mem_of_getElem? hx)
    obtain ⟨⟨ka, na, ta, la⟩, d⟩ := x
    simp only [List.length_append, kids, V.args, List.length_map] at hsl
    dsimp only at hdp
    have hrow : (all.flatMap atTs)[i * 5 + 0 + 3]? = some (.row la.length 4 (V.all la)) := (flat_get atTs 5 atTs_len hx (j := 3) (by omega)).trans rfl
    have hdv : (all.flatMap atTs)[i * 5 + 4]? = some (.lit (.int .i64 (d : Int))) := (flat_get atTs 5 atTs_len hx (j := 4) (by omega)).trans rfl
    have hfl := flat_len atTs 5 atTs_len all
    repeat (first | refine zNil ?_ | refine zOp ?_ | refine zOpn ?_ | refine zNo ?_ | refine zNon ?_ | refine zUn ?_ | refine zUnn ?_ | refine zYes ?_ | refine zYesn ?_ | (refine zkL ?_; first | refine zL1 ?_ | refine zL2 ?_ | refine zL3 ?_ | refine zLp ?_) | refine zM ?_ | (refine zkF ?_; first | refine zF1 ?_ | refine zF2 ?_ | refine zF3 ?_) | refine zA ?_ | (refine zkB ?_; first | refine zC5 ?_ | refine zC6 ?_ | refine zC1 ?_ | refine zC2 ?_ | refine zC3 ?_ | refine zC4 ?_ | refine zS5 ?_ | refine zS6 ?_ | refine zS1 ?_ | refine zS2 ?_ | refine zS3 ?_ | refine zS4 ?_ | refine zInc ?_ | refine zQ1 ?_ | refine zQ2 ?_ | refine zQ3 ?_ | refine zQ4 ?_ | refine zQ5 ?_ | refine zQ6 ?_) | (refine zkI ?_; first | refine zN1 (fun hlen => ?_) | refine zN2 (fun hlen => ?_) | refine zN3 ?_ | refine zN4 ?_ | refine zAp (fun _ => ?_)) | refine zS ?_ | refine zAl (fun _ => ?_) | refine zBx (fun _ => ?_) | refine zPt ?_ | refine zPf ?_ | refine zE ?_ | refine zEA ?_ | refine zNot ?_ | refine zBd ?_ | refine zBs ?_ | refine zFn ?_ | refine zK1 ?_ | refine zK2 ?_ | refine ac_seq ?_ | refine ac_block ?_ | refine ac_region ?_ | refine ac_skip ?_ | refine ac_exit ?_ | refine ac_ret ?_ | refine zT ?_ | refine zF ?_)
    refine zIxo i hi' ?_
    repeat (first | refine zNil ?_ | refine zOp ?_ | refine zOpn ?_ | refine zNo ?_ | refine zNon ?_ | refine zUn ?_ | refine zUnn ?_ | refine zYes ?_ | refine zYesn ?_ | (refine zkL ?_; first | refine zL1 ?_ | refine zL2 ?_ | refine zL3 ?_ | refine zLp ?_) | refine zM ?_ | (refine zkF ?_; first | refine zF1 ?_ | refine zF2 ?_ | refine zF3 ?_) | refine zA ?_ | (refine zkB ?_; first | refine zC5 ?_ | refine zC6 ?_ | refine zC1 ?_ | refine zC2 ?_ | refine zC3 ?_ | refine zC4 ?_ | refine zS5 ?_ | refine zS6 ?_ | refine zS1 ?_ | refine zS2 ?_ | refine zS3 ?_ | refine zS4 ?_ | refine zInc ?_ | refine zQ1 ?_ | refine zQ2 ?_ | refine zQ3 ?_ | refine zQ4 ?_ | refine zQ5 ?_ | refine zQ6 ?_) | (refine zkI ?_; first | refine zN1 (fun hlen => ?_) | refine zN2 (fun hlen => ?_) | refine zN3 ?_ | refine zN4 ?_ | refine zAp (fun _ => ?_)) | refine zS ?_ | refine zAl (fun _ => ?_) | refine zBx (fun _ => ?_) | refine zPt ?_ | refine zPf ?_ | refine zE ?_ | refine zEA ?_ | refine zNot ?_ | refine zBd ?_ | refine zBs ?_ | refine zFn ?_ | refine zK1 ?_ | refine zK2 ?_ | refine ac_seq ?_ | refine ac_block ?_ | refine ac_region ?_ | refine ac_skip ?_ | refine ac_exit ?_ | refine ac_ret ?_ | refine zT ?_ | refine zF ?_)
    refine zElo1 hrow ?_
    repeat (first | refine zNil ?_ | refine zOp ?_ | refine zOpn ?_ | refine zNo ?_ | refine zNon ?_ | refine zUn ?_ | refine zUnn ?_ | refine zYes ?_ | refine zYesn ?_ | (refine zkL ?_; first | refine zL1 ?_ | refine zL2 ?_ | refine zL3 ?_ | refine zLp ?_) | refine zM ?_ | (refine zkF ?_; first | refine zF1 ?_ | refine zF2 ?_ | refine zF3 ?_) | refine zA ?_ | (refine zkB ?_; first | refine zC5 ?_ | refine zC6 ?_ | refine zC1 ?_ | refine zC2 ?_ | refine zC3 ?_ | refine zC4 ?_ | refine zS5 ?_ | refine zS6 ?_ | refine zS1 ?_ | refine zS2 ?_ | refine zS3 ?_ | refine zS4 ?_ | refine zInc ?_ | refine zQ1 ?_ | refine zQ2 ?_ | refine zQ3 ?_ | refine zQ4 ?_ | refine zQ5 ?_ | refine zQ6 ?_) | (refine zkI ?_; first | refine zN1 (fun hlen => ?_) | refine zN2 (fun hlen => ?_) | refine zN3 ?_ | refine zN4 ?_ | refine zAp (fun _ => ?_)) | refine zS ?_ | refine zAl (fun _ => ?_) | refine zBx (fun _ => ?_) | refine zPt ?_ | refine zPf ?_ | refine zE ?_ | refine zEA ?_ | refine zNot ?_ | refine zBd ?_ | refine zBs ?_ | refine zFn ?_ | refine zK1 ?_ | refine zK2 ?_ | refine ac_seq ?_ | refine ac_block ?_ | refine ac_region ?_ | refine ac_skip ?_ | refine ac_exit ?_ | refine ac_ret ?_ | refine zT ?_ | refine zF ?_)
    refine x_loop [3, 6, 31, 32, 33, 34, 35, 36, 37, 38, 39, 40, 41, 42, 43, 44, 45, 46] (fun y : Nat × Value => [(31, .c (.lit (.int .i64 (y.1 : Nat)))), (3, .own 0 y.2)]) (fun y => [.row y.2 141 5 (all.length + y.1) (all.flatMap atTs ++ ((la.take y.1).map fun a => (a, d + 1)).flatMap atTs)])
      (fun y => y.1 ≤ la.length) (fun y => la.length - y.1) (0, u) (Nat.zero_le _) ⟨rfl, rfl, trivial⟩ (by simp) ?_
    rintro ⟨j, w⟩ hj
    dsimp only at hj ⊢
    repeat (first | refine zNil ?_ | refine zOp ?_ | refine zOpn ?_ | refine zNo ?_ | refine zNon ?_ | refine zUn ?_ | refine zUnn ?_ | refine zYes ?_ | refine zYesn ?_ | (refine zkL ?_; first | refine zL1 ?_ | refine zL2 ?_ | refine zL3 ?_ | refine zLp ?_) | refine zM ?_ | (refine zkF ?_; first | refine zF1 ?_ | refine zF2 ?_ | refine zF3 ?_) | refine zA ?_ | (refine zkB ?_; first | refine zC5 ?_ | refine zC6 ?_ | refine zC1 ?_ | refine zC2 ?_ | refine zC3 ?_ | refine zC4 ?_ | refine zS5 ?_ | refine zS6 ?_ | refine zS1 ?_ | refine zS2 ?_ | refine zS3 ?_ | refine zS4 ?_ | refine zInc ?_ | refine zQ1 ?_ | refine zQ2 ?_ | refine zQ3 ?_ | refine zQ4 ?_ | refine zQ5 ?_ | refine zQ6 ?_) | (refine zkI ?_; first | refine zN1 (fun hlen => ?_) | refine zN2 (fun hlen => ?_) | refine zN3 ?_ | refine zN4 ?_ | refine zAp (fun _ => ?_)) | refine zS ?_ | refine zAl (fun _ => ?_) | refine zBx (fun _ => ?_) | refine zPt ?_ | refine zPf ?_ | refine zE ?_ | refine zEA ?_ | refine zNot ?_ | refine zBd ?_ | refine zBs ?_ | refine zFn ?_ | refine zK1 ?_ | refine zK2 ?_ | refine ac_seq ?_ | refine ac_block ?_ | refine ac_region ?_ | refine ac_skip ?_ | refine ac_exit ?_ | refine ac_ret ?_ | refine zT ?_ | refine zF ?_)
    refine x_cond rfl (fun h => ?_) (fun h => ?_)
    · have hj' : j < la.length := by simpa using h
      obtain ⟨a, ha⟩ := nth hj'
      have hsn : ((la.take (j + 1)).map fun a => (a, d + 1)).flatMap atTs = ((la.take j).map fun a => (a, d + 1)).flatMap atTs ++ atTs (a, d + 1) := by
        rw [map_snoc2 _ ha, List.flatMap_append]; simp
      have hdv' : (all.flatMap atTs ++ ((la.take j).map fun a => (a, d + 1)).flatMap atTs)[i * 5 + 4]? = some (.lit (.int .i64 (d : Int))) := by rw [List.getElem?_append_left (by omega)]; exact hdv
      have hin : i < all.length + j := by omega
      repeat (first | refine zNil ?_ | refine zOp ?_ | refine zOpn ?_ | refine zNo ?_ | refine zNon ?_ | refine zUn ?_ | refine zUnn ?_ | refine zYes ?_ | refine zYesn ?_ | (refine zkL ?_; first | refine zL1 ?_ | refine zL2 ?_ | refine zL3 ?_ | refine zLp ?_) | refine zM ?_ | (refine zkF ?_; first | refine zF1 ?_ | refine zF2 ?_ | refine zF3 ?_) | refine zA ?_ | (refine zkB ?_; first | refine zC5 ?_ | refine zC6 ?_ | refine zC1 ?_ | refine zC2 ?_ | refine zC3 ?_ | refine zC4 ?_ | refine zS5 ?_ | refine zS6 ?_ | refine zS1 ?_ | refine zS2 ?_ | refine zS3 ?_ | refine zS4 ?_ | refine zInc ?_ | refine zQ1 ?_ | refine zQ2 ?_ | refine zQ3 ?_ | refine zQ4 ?_ | refine zQ5 ?_ | refine zQ6 ?_) | (refine zkI ?_; first | refine zN1 (fun hlen => ?_) | refine zN2 (fun hlen => ?_) | refine zN3 ?_ | refine zN4 ?_ | refine zAp (fun _ => ?_)) | refine zS ?_ | refine zAl (fun _ => ?_) | refine zBx (fun _ => ?_) | refine zPt ?_ | refine zPf ?_ | refine zE ?_ | refine zEA ?_ | refine zNot ?_ | refine zBd ?_ | refine zBs ?_ | refine zFn ?_ | refine zK1 ?_ | refine zK2 ?_ | refine ac_seq ?_ | refine ac_block ?_ | refine ac_region ?_ | refine ac_skip ?_ | refine ac_exit ?_ | refine ac_ret ?_ | refine zT ?_ | refine zF ?_)
      refine zIx (j) (hj') ?_
      repeat (first | refine zNil ?_ | refine zOp ?_ | refine zOpn ?_ | refine zNo ?_ | refine zNon ?_ | refine zUn ?_ | refine zUnn ?_ | refine zYes ?_ | refine zYesn ?_ | (refine zkL ?_; first | refine zL1 ?_ | refine zL2 ?_ | refine zL3 ?_ | refine zLp ?_) | refine zM ?_ | (refine zkF ?_; first | refine zF1 ?_ | refine zF2 ?_ | refine zF3 ?_) | refine zA ?_ | (refine zkB ?_; first | refine zC5 ?_ | refine zC6 ?_ | refine zC1 ?_ | refine zC2 ?_ | refine zC3 ?_ | refine zC4 ?_ | refine zS5 ?_ | refine zS6 ?_ | refine zS1 ?_ | refine zS2 ?_ | refine zS3 ?_ | refine zS4 ?_ | refine zInc ?_ | refine zQ1 ?_ | refine zQ2 ?_ | refine zQ3 ?_ | refine zQ4 ?_ | refine zQ5 ?_ | refine zQ6 ?_) | (refine zkI ?_; first | refine zN1 (fun hlen => ?_) | refine zN2 (fun hlen => ?_) | refine zN3 ?_ | refine zN4 ?_ | refine zAp (fun _ => ?_)) | refine zS ?_ | refine zAl (fun _ => ?_) | refine zBx (fun _ => ?_) | refine zPt ?_ | refine zPf ?_ | refine zE ?_ | refine zEA ?_ | refine zNot ?_ | refine zBd ?_ | refine zBs ?_ | refine zFn ?_ | refine zK1 ?_ | refine zK2 ?_ | refine ac_seq ?_ | refine ac_block ?_ | refine ac_region ?_ | refine ac_skip ?_ | refine ac_exit ?_ | refine ac_ret ?_ | refine zT ?_ | refine zF ?_)
      refine zEl (V.at ha) (V.ts_len a) ?_
      obtain ⟨kb', nb', tb', lb'⟩ := a
      repeat (first | refine zNil ?_ | refine zOp ?_ | refine zOpn ?_ | refine zNo ?_ | refine zNon ?_ | refine zUn ?_ | refine zUnn ?_ | refine zYes ?_ | refine zYesn ?_ | (refine zkL ?_; first | refine zL1 ?_ | refine zL2 ?_ | refine zL3 ?_ | refine zLp ?_) | refine zM ?_ | (refine zkF ?_; first | refine zF1 ?_ | refine zF2 ?_ | refine zF3 ?_) | refine zA ?_ | (refine zkB ?_; first | refine zC5 ?_ | refine zC6 ?_ | refine zC1 ?_ | refine zC2 ?_ | refine zC3 ?_ | refine zC4 ?_ | refine zS5 ?_ | refine zS6 ?_ | refine zS1 ?_ | refine zS2 ?_ | refine zS3 ?_ | refine zS4 ?_ | refine zInc ?_ | refine zQ1 ?_ | refine zQ2 ?_ | refine zQ3 ?_ | refine zQ4 ?_ | refine zQ5 ?_ | refine zQ6 ?_) | (refine zkI ?_; first | refine zN1 (fun hlen => ?_) | refine zN2 (fun hlen => ?_) | refine zN3 ?_ | refine zN4 ?_ | refine zAp (fun _ => ?_)) | refine zS ?_ | refine zAl (fun _ => ?_) | refine zBx (fun _ => ?_) | refine zPt ?_ | refine zPf ?_ | refine zE ?_ | refine zEA ?_ | refine zNot ?_ | refine zBd ?_ | refine zBs ?_ | refine zFn ?_ | refine zK1 ?_ | refine zK2 ?_ | refine ac_seq ?_ | refine ac_block ?_ | refine ac_region ?_ | refine ac_skip ?_ | refine ac_exit ?_ | refine ac_ret ?_ | refine zT ?_ | refine zF ?_)
      refine ac_draw [1, 1, 1, 1, 1, 1, 1, 1, 1, 1, 2, 1] [0, 1, 2, 3, 4, 5, 6, 7, 8, 9, 10, 11] (by kernel_rfl) (by kernel_rfl) ?_
      apply w_q; (focus exact rfl); (focus exact rfl); focus (intro _; (refine zM ?_); exact det_refl)
      apply w_q; (focus exact rfl); (focus exact rfl); focus (intro _; (first | refine zL1 ?_ | refine zL2 ?_ | refine zL3 ?_ | refine zLp ?_); exact det_refl)
      apply w_q; (focus exact rfl); (focus exact rfl); focus (intro _; (refine zM ?_); exact det_refl)
      apply w_q; (focus exact rfl); (focus exact rfl); focus (intro _; (refine zM ?_); exact det_refl)
      apply w_q; (focus exact rfl); (focus exact rfl); focus (intro _; (refine zIxo i hin ?_); exact det_refl)
      apply w_q; (focus exact rfl); (focus exact rfl); focus (intro _; (first | refine zF1 ?_ | refine zF2 ?_ | refine zF3 ?_); exact det_refl)
      apply w_q; (focus exact rfl); (focus exact rfl); focus (intro _; (refine zElo1 hdv' ?_); exact det_refl)
      apply w_q; (focus exact rfl); (focus exact rfl); focus (intro _; (refine zInc ?_); exact det_refl)
      apply w_q; (focus exact rfl); (focus exact rfl); focus (intro _; (refine zBd ?_); exact det_refl)
      apply w_q; (focus exact rfl); (focus exact rfl); focus (intro _; (refine zBs ?_); exact det_refl)
      apply w_l; (focus exact rfl); (focus exact rfl); (first | (refine zkL ?_; first | refine zL1 ?_ | refine zL2 ?_ | refine zL3 ?_ | refine zLp ?_) | refine zM ?_ | (refine zkF ?_; first | refine zF1 ?_ | refine zF2 ?_ | refine zF3 ?_) | refine zA ?_ | (refine zkB ?_; first | refine zC5 ?_ | refine zC6 ?_ | refine zC1 ?_ | refine zC2 ?_ | refine zC3 ?_ | refine zC4 ?_ | refine zS5 ?_ | refine zS6 ?_ | refine zS1 ?_ | refine zS2 ?_ | refine zS3 ?_ | refine zS4 ?_ | refine zInc ?_ | refine zQ1 ?_ | refine zQ2 ?_ | refine zQ3 ?_ | refine zQ4 ?_ | refine zQ5 ?_ | refine zQ6 ?_) | (refine zkI ?_; first | refine zN1 (fun hlen => ?_) | refine zN2 (fun hlen => ?_) | refine zN3 ?_ | refine zN4 ?_ | refine zAp (fun _ => ?_)) | refine zS ?_ | refine zAl (fun _ => ?_) | refine zBx (fun _ => ?_) | refine zPt ?_ | refine zPf ?_ | refine zE ?_ | refine zEA ?_ | refine zNot ?_ | refine zBd ?_ | refine zBs ?_ | refine zFn ?_ | refine zK1 ?_ | refine zK2 ?_)
      apply w_q; (focus exact rfl); (focus exact rfl); focus (intro _; (refine zA ?_); exact det_refl)
      refine w_nil ?_
      repeat (first | refine zNil ?_ | refine zOp ?_ | refine zOpn ?_ | refine zNo ?_ | refine zNon ?_ | refine zUn ?_ | refine zUnn ?_ | refine zYes ?_ | refine zYesn ?_ | (refine zkL ?_; first | refine zL1 ?_ | refine zL2 ?_ | refine zL3 ?_ | refine zLp ?_) | refine zM ?_ | (refine zkF ?_; first | refine zF1 ?_ | refine zF2 ?_ | refine zF3 ?_) | refine zA ?_ | (refine zkB ?_; first | refine zC5 ?_ | refine zC6 ?_ | refine zC1 ?_ | refine zC2 ?_ | refine zC3 ?_ | refine zC4 ?_ | refine zS5 ?_ | refine zS6 ?_ | refine zS1 ?_ | refine zS2 ?_ | refine zS3 ?_ | refine zS4 ?_ | refine zInc ?_ | refine zQ1 ?_ | refine zQ2 ?_ | refine zQ3 ?_ | refine zQ4 ?_ | refine zQ5 ?_ | refine zQ6 ?_) | (refine zkI ?_; first | refine zN1 (fun hlen => ?_) | refine zN2 (fun hlen => ?_) | refine zN3 ?_ | refine zN4 ?_ | refine zAp (fun _ => ?_)) | refine zS ?_ | refine zAl (fun _ => ?_) | refine zBx (fun _ => ?_) | refine zPt ?_ | refine zPf ?_ | refine zE ?_ | refine zEA ?_ | refine zNot ?_ | refine zBd ?_ | refine zBs ?_ | refine zFn ?_ | refine zK1 ?_ | refine zK2 ?_ | refine ac_seq ?_ | refine ac_block ?_ | refine ac_region ?_ | refine ac_skip ?_ | refine ac_exit ?_ | refine ac_ret ?_ | refine zT ?_ | refine zF ?_)
      exact ⟨(j + 1, _), hj', by simp only; omega, x_wkd 1 ⟨rfl, rfl, trivial⟩ (by simp only [hsn, ← List.append_assoc, ← Nat.add_assoc]; rfl) (by repeat (first | exact ag_refl | refine ag_upd rfl ?_ | refine ag_at rfl rfl ?_))⟩
    · have hj' : j = la.length := by have : ¬ j < la.length := by simpa using h
                                     omega
      subst hj'
      repeat (first | refine zNil ?_ | refine zOp ?_ | refine zOpn ?_ | refine zNo ?_ | refine zNon ?_ | refine zUn ?_ | refine zUnn ?_ | refine zYes ?_ | refine zYesn ?_ | (refine zkL ?_; first | refine zL1 ?_ | refine zL2 ?_ | refine zL3 ?_ | refine zLp ?_) | refine zM ?_ | (refine zkF ?_; first | refine zF1 ?_ | refine zF2 ?_ | refine zF3 ?_) | refine zA ?_ | (refine zkB ?_; first | refine zC5 ?_ | refine zC6 ?_ | refine zC1 ?_ | refine zC2 ?_ | refine zC3 ?_ | refine zC4 ?_ | refine zS5 ?_ | refine zS6 ?_ | refine zS1 ?_ | refine zS2 ?_ | refine zS3 ?_ | refine zS4 ?_ | refine zInc ?_ | refine zQ1 ?_ | refine zQ2 ?_ | refine zQ3 ?_ | refine zQ4 ?_ | refine zQ5 ?_ | refine zQ6 ?_) | (refine zkI ?_; first | refine zN1 (fun hlen => ?_) | refine zN2 (fun hlen => ?_) | refine zN3 ?_ | refine zN4 ?_ | refine zAp (fun _ => ?_)) | refine zS ?_ | refine zAl (fun _ => ?_) | refine zBx (fun _ => ?_) | refine zPt ?_ | refine zPf ?_ | refine zE ?_ | refine zEA ?_ | refine zNot ?_ | refine zBd ?_ | refine zBs ?_ | refine zFn ?_ | refine zK1 ?_ | refine zK2 ?_ | refine ac_seq ?_ | refine ac_block ?_ | refine ac_region ?_ | refine ac_skip ?_ | refine ac_exit ?_ | refine ac_ret ?_ | refine zT ?_ | refine zF ?_)
      refine ⟨(i + 1, all ++ kids (.mk ka na ta la, d), w), hst, ?_, x_wkd 1 ⟨rfl, rfl, trivial⟩ (by simp only [kids, V.args, List.take_length, List.length_append, List.length_map, List.flatMap_append]; rfl) (by repeat (first | exact ag_refl | refine ag_upd rfl ?_ | refine ag_at rfl rfl ?_))⟩
      have h1 := hlev.size
      have h2 := vsz_len (all.drop i)
      rw [List.length_drop] at h2
      simp only
      omega
  · have hi' : i = all.length := by have := hlev.le
                                    have : ¬ i < all.length := by simpa using h
                                    omega
    subst hi'
    have hbig := big_all hlev
    have hdone := hlev.done
    repeat (first | refine zNil ?_ | refine zOp ?_ | refine zOpn ?_ | refine zNo ?_ | refine zNon ?_ | refine zUn ?_ | refine zUnn ?_ | refine zYes ?_ | refine zYesn ?_ | (refine zkL ?_; first | refine zL1 ?_ | refine zL2 ?_ | refine zL3 ?_ | refine zLp ?_) | refine zM ?_ | (refine zkF ?_; first | refine zF1 ?_ | refine zF2 ?_ | refine zF3 ?_) | refine zA ?_ | (refine zkB ?_; first | refine zC5 ?_ | refine zC6 ?_ | refine zC1 ?_ | refine zC2 ?_ | refine zC3 ?_ | refine zC4 ?_ | refine zS5 ?_ | refine zS6 ?_ | refine zS1 ?_ | refine zS2 ?_ | refine zS3 ?_ | refine zS4 ?_ | refine zInc ?_ | refine zQ1 ?_ | refine zQ2 ?_ | refine zQ3 ?_ | refine zQ4 ?_ | refine zQ5 ?_ | refine zQ6 ?_) | (refine zkI ?_; first | refine zN1 (fun hlen => ?_) | refine zN2 (fun hlen => ?_) | refine zN3 ?_ | refine zN4 ?_ | refine zAp (fun _ => ?_)) | refine zS ?_ | refine zAl (fun _ => ?_) | refine zBx (fun _ => ?_) | refine zPt ?_ | refine zPf ?_ | refine zE ?_ | refine zEA ?_ | refine zNot ?_ | refine zBd ?_ | refine zBs ?_ | refine zFn ?_ | refine zK1 ?_ | refine zK2 ?_ | refine ac_seq ?_ | refine ac_block ?_ | refine ac_region ?_ | refine ac_skip ?_ | refine ac_exit ?_ | refine ac_ret ?_ | refine zT ?_ | refine zF ?_)
    refine x_loop [2, 8, 49, 50, 51, 52, 53, 54, 55, 56, 57, 58, 59, 60, 61, 62, 63, 64, 65, 66, 67, 68] (fun y : Nat => [(49, .c (.lit (.int .i64 (y : Nat))))]) (fun _ => [.row u 141 5 all.length (all.flatMap atTs)])
      (fun y => y ≤ all.length ∧ (all.take y).all (big400 all.length) = true) (fun y => all.length - y) 0 ⟨Nat.zero_le _, by simp⟩ ⟨rfl, trivial⟩ rfl ?_
    rintro j ⟨hj, hja⟩
    repeat (first | refine zNil ?_ | refine zOp ?_ | refine zOpn ?_ | refine zNo ?_ | refine zNon ?_ | refine zUn ?_ | refine zUnn ?_ | refine zYes ?_ | refine zYesn ?_ | (refine zkL ?_; first | refine zL1 ?_ | refine zL2 ?_ | refine zL3 ?_ | refine zLp ?_) | refine zM ?_ | (refine zkF ?_; first | refine zF1 ?_ | refine zF2 ?_ | refine zF3 ?_) | refine zA ?_ | (refine zkB ?_; first | refine zC5 ?_ | refine zC6 ?_ | refine zC1 ?_ | refine zC2 ?_ | refine zC3 ?_ | refine zC4 ?_ | refine zS5 ?_ | refine zS6 ?_ | refine zS1 ?_ | refine zS2 ?_ | refine zS3 ?_ | refine zS4 ?_ | refine zInc ?_ | refine zQ1 ?_ | refine zQ2 ?_ | refine zQ3 ?_ | refine zQ4 ?_ | refine zQ5 ?_ | refine zQ6 ?_) | (refine zkI ?_; first | refine zN1 (fun hlen => ?_) | refine zN2 (fun hlen => ?_) | refine zN3 ?_ | refine zN4 ?_ | refine zAp (fun _ => ?_)) | refine zS ?_ | refine zAl (fun _ => ?_) | refine zBx (fun _ => ?_) | refine zPt ?_ | refine zPf ?_ | refine zE ?_ | refine zEA ?_ | refine zNot ?_ | refine zBd ?_ | refine zBs ?_ | refine zFn ?_ | refine zK1 ?_ | refine zK2 ?_ | refine ac_seq ?_ | refine ac_block ?_ | refine ac_region ?_ | refine ac_skip ?_ | refine ac_exit ?_ | refine ac_ret ?_ | refine zT ?_ | refine zF ?_)
    refine x_cond rfl (fun h => ?_) (fun h => ?_)
    · have hj' : j < all.length := by simpa using h
      obtain ⟨x, hx⟩ := nth hj'
      have hsa := all_snoc (big400 all.length) hx
      obtain ⟨⟨ka, na, ta, la⟩, d⟩ := x
      have hno : big400 all.length (.mk ka na ta la, d) = false → (V.mk k0 n0 t0 l0).check = 2 := fun hb => by
        rw [V.check, hbig, all_no _ hx hb]; rfl
      repeat (first | refine zNil ?_ | refine zOp ?_ | refine zOpn ?_ | refine zNo ?_ | refine zNon ?_ | refine zUn ?_ | refine zUnn ?_ | refine zYes ?_ | refine zYesn ?_ | (refine zkL ?_; first | refine zL1 ?_ | refine zL2 ?_ | refine zL3 ?_ | refine zLp ?_) | refine zM ?_ | (refine zkF ?_; first | refine zF1 ?_ | refine zF2 ?_ | refine zF3 ?_) | refine zA ?_ | (refine zkB ?_; first | refine zC5 ?_ | refine zC6 ?_ | refine zC1 ?_ | refine zC2 ?_ | refine zC3 ?_ | refine zC4 ?_ | refine zS5 ?_ | refine zS6 ?_ | refine zS1 ?_ | refine zS2 ?_ | refine zS3 ?_ | refine zS4 ?_ | refine zInc ?_ | refine zQ1 ?_ | refine zQ2 ?_ | refine zQ3 ?_ | refine zQ4 ?_ | refine zQ5 ?_ | refine zQ6 ?_) | (refine zkI ?_; first | refine zN1 (fun hlen => ?_) | refine zN2 (fun hlen => ?_) | refine zN3 ?_ | refine zN4 ?_ | refine zAp (fun _ => ?_)) | refine zS ?_ | refine zAl (fun _ => ?_) | refine zBx (fun _ => ?_) | refine zPt ?_ | refine zPf ?_ | refine zE ?_ | refine zEA ?_ | refine zNot ?_ | refine zBd ?_ | refine zBs ?_ | refine zFn ?_ | refine zK1 ?_ | refine zK2 ?_ | refine ac_seq ?_ | refine ac_block ?_ | refine ac_region ?_ | refine ac_skip ?_ | refine ac_exit ?_ | refine ac_ret ?_ | refine zT ?_ | refine zF ?_)
      refine zIxo j hj' ?_
      repeat (first | refine zNil ?_ | refine zOp ?_ | refine zOpn ?_ | refine zNo ?_ | refine zNon ?_ | refine zUn ?_ | refine zUnn ?_ | refine zYes ?_ | refine zYesn ?_ | (refine zkL ?_; first | refine zL1 ?_ | refine zL2 ?_ | refine zL3 ?_ | refine zLp ?_) | refine zM ?_ | (refine zkF ?_; first | refine zF1 ?_ | refine zF2 ?_ | refine zF3 ?_) | refine zA ?_ | (refine zkB ?_; first | refine zC5 ?_ | refine zC6 ?_ | refine zC1 ?_ | refine zC2 ?_ | refine zC3 ?_ | refine zC4 ?_ | refine zS5 ?_ | refine zS6 ?_ | refine zS1 ?_ | refine zS2 ?_ | refine zS3 ?_ | refine zS4 ?_ | refine zInc ?_ | refine zQ1 ?_ | refine zQ2 ?_ | refine zQ3 ?_ | refine zQ4 ?_ | refine zQ5 ?_ | refine zQ6 ?_) | (refine zkI ?_; first | refine zN1 (fun hlen => ?_) | refine zN2 (fun hlen => ?_) | refine zN3 ?_ | refine zN4 ?_ | refine zAp (fun _ => ?_)) | refine zS ?_ | refine zAl (fun _ => ?_) | refine zBx (fun _ => ?_) | refine zPt ?_ | refine zPf ?_ | refine zE ?_ | refine zEA ?_ | refine zNot ?_ | refine zBd ?_ | refine zBs ?_ | refine zFn ?_ | refine zK1 ?_ | refine zK2 ?_ | refine ac_seq ?_ | refine ac_block ?_ | refine ac_region ?_ | refine ac_skip ?_ | refine ac_exit ?_ | refine ac_ret ?_ | refine zT ?_ | refine zF ?_)
      refine zElo (flat_at atTs 5 atTs_len hx) (atTs_len _) ?_
      cases d1 : decide ((400 : Int) < (all.length : Int))
      · cases d2 : decide ((40 : Int) < (d : Int))
        · cases d3 : decide ((4000 : Int) < (ta.size : Int))
          · repeat (first | refine zNil ?_ | refine zOp ?_ | refine zOpn ?_ | refine zNo ?_ | refine zNon ?_ | refine zUn ?_ | refine zUnn ?_ | refine zYes ?_ | refine zYesn ?_ | (refine zkL ?_; first | refine zL1 ?_ | refine zL2 ?_ | refine zL3 ?_ | refine zLp ?_) | refine zM ?_ | (refine zkF ?_; first | refine zF1 ?_ | refine zF2 ?_ | refine zF3 ?_) | refine zA ?_ | (refine zkB ?_; first | refine zC5 ?_ | refine zC6 ?_ | refine zC1 ?_ | refine zC2 ?_ | refine zC3 ?_ | refine zC4 ?_ | refine zS5 ?_ | refine zS6 ?_ | refine zS1 ?_ | refine zS2 ?_ | refine zS3 ?_ | refine zS4 ?_ | refine zInc ?_ | refine zQ1 ?_ | refine zQ2 ?_ | refine zQ3 ?_ | refine zQ4 ?_ | refine zQ5 ?_ | refine zQ6 ?_) | (refine zkI ?_; first | refine zN1 (fun hlen => ?_) | refine zN2 (fun hlen => ?_) | refine zN3 ?_ | refine zN4 ?_ | refine zAp (fun _ => ?_)) | refine zS ?_ | refine zAl (fun _ => ?_) | refine zBx (fun _ => ?_) | refine zPt ?_ | refine zPf ?_ | refine zE ?_ | refine zEA ?_ | refine zNot ?_ | refine zBd ?_ | refine zBs ?_ | refine zFn ?_ | refine zK1 ?_ | refine zK2 ?_ | refine ac_seq ?_ | refine ac_block ?_ | refine ac_region ?_ | refine ac_skip ?_ | refine ac_exit ?_ | refine ac_ret ?_ | refine zT ?_ | refine zF ?_)
            exact ⟨j + 1, ⟨hj', by rw [hsa, hja, big400_eq, d1, d2, d3]; rfl⟩, by omega, x_wkd 1 ⟨rfl, trivial⟩ rfl (by repeat (first | exact ag_refl | refine ag_upd rfl ?_ | refine ag_at rfl rfl ?_))⟩
          · repeat (first | refine zNil ?_ | refine zOp ?_ | refine zOpn ?_ | refine zNo ?_ | refine zNon ?_ | refine zUn ?_ | refine zUnn ?_ | refine zYes ?_ | refine zYesn ?_ | (refine zkL ?_; first | refine zL1 ?_ | refine zL2 ?_ | refine zL3 ?_ | refine zLp ?_) | refine zM ?_ | (refine zkF ?_; first | refine zF1 ?_ | refine zF2 ?_ | refine zF3 ?_) | refine zA ?_ | (refine zkB ?_; first | refine zC5 ?_ | refine zC6 ?_ | refine zC1 ?_ | refine zC2 ?_ | refine zC3 ?_ | refine zC4 ?_ | refine zS5 ?_ | refine zS6 ?_ | refine zS1 ?_ | refine zS2 ?_ | refine zS3 ?_ | refine zS4 ?_ | refine zInc ?_ | refine zQ1 ?_ | refine zQ2 ?_ | refine zQ3 ?_ | refine zQ4 ?_ | refine zQ5 ?_ | refine zQ6 ?_) | (refine zkI ?_; first | refine zN1 (fun hlen => ?_) | refine zN2 (fun hlen => ?_) | refine zN3 ?_ | refine zN4 ?_ | refine zAp (fun _ => ?_)) | refine zS ?_ | refine zAl (fun _ => ?_) | refine zBx (fun _ => ?_) | refine zPt ?_ | refine zPf ?_ | refine zE ?_ | refine zEA ?_ | refine zNot ?_ | refine zBd ?_ | refine zBs ?_ | refine zFn ?_ | refine zK1 ?_ | refine zK2 ?_ | refine ac_seq ?_ | refine ac_block ?_ | refine ac_region ?_ | refine ac_skip ?_ | refine ac_exit ?_ | refine ac_ret ?_ | refine zT ?_ | refine zF ?_)
            first | refine zR ?_ | refine zQ ?_
            rw [hno (by rw [big400_eq, d1, d2, d3]; rfl)]; rfl
        · repeat (first | refine zNil ?_ | refine zOp ?_ | refine zOpn ?_ | refine zNo ?_ | refine zNon ?_ | refine zUn ?_ | refine zUnn ?_ | refine zYes ?_ | refine zYesn ?_ | (refine zkL ?_; first | refine zL1 ?_ | refine zL2 ?_ | refine zL3 ?_ | refine zLp ?_) | refine zM ?_ | (refine zkF ?_; first | refine zF1 ?_ | refine zF2 ?_ | refine zF3 ?_) | refine zA ?_ | (refine zkB ?_; first | refine zC5 ?_ | refine zC6 ?_ | refine zC1 ?_ | refine zC2 ?_ | refine zC3 ?_ | refine zC4 ?_ | refine zS5 ?_ | refine zS6 ?_ | refine zS1 ?_ | refine zS2 ?_ | refine zS3 ?_ | refine zS4 ?_ | refine zInc ?_ | refine zQ1 ?_ | refine zQ2 ?_ | refine zQ3 ?_ | refine zQ4 ?_ | refine zQ5 ?_ | refine zQ6 ?_) | (refine zkI ?_; first | refine zN1 (fun hlen => ?_) | refine zN2 (fun hlen => ?_) | refine zN3 ?_ | refine zN4 ?_ | refine zAp (fun _ => ?_)) | refine zS ?_ | refine zAl (fun _ => ?_) | refine zBx (fun _ => ?_) | refine zPt ?_ | refine zPf ?_ | refine zE ?_ | refine zEA ?_ | refine zNot ?_ | refine zBd ?_ | refine zBs ?_ | refine zFn ?_ | refine zK1 ?_ | refine zK2 ?_ | refine ac_seq ?_ | refine ac_block ?_ | refine ac_region ?_ | refine ac_skip ?_ | refine ac_exit ?_ | refine ac_ret ?_ | refine zT ?_ | refine zF ?_)
          first | refine zR ?_ | refine zQ ?_
          rw [hno (by rw [big400_eq, d1, d2]; rfl)]; rfl
      · repeat (first | refine zNil ?_ | refine zOp ?_ | refine zOpn ?_ | refine zNo ?_ | refine zNon ?_ | refine zUn ?_ | refine zUnn ?_ | refine zYes ?_ | refine zYesn ?_ | (refine zkL ?_; first | refine zL1 ?_ | refine zL2 ?_ | refine zL3 ?_ | refine zLp ?_) | refine zM ?_ | (refine zkF ?_; first | refine zF1 ?_ | refine zF2 ?_ | refine zF3 ?_) | refine zA ?_ | (refine zkB ?_; first | refine zC5 ?_ | refine zC6 ?_ | refine zC1 ?_ | refine zC2 ?_ | refine zC3 ?_ | refine zC4 ?_ | refine zS5 ?_ | refine zS6 ?_ | refine zS1 ?_ | refine zS2 ?_ | refine zS3 ?_ | refine zS4 ?_ | refine zInc ?_ | refine zQ1 ?_ | refine zQ2 ?_ | refine zQ3 ?_ | refine zQ4 ?_ | refine zQ5 ?_ | refine zQ6 ?_) | (refine zkI ?_; first | refine zN1 (fun hlen => ?_) | refine zN2 (fun hlen => ?_) | refine zN3 ?_ | refine zN4 ?_ | refine zAp (fun _ => ?_)) | refine zS ?_ | refine zAl (fun _ => ?_) | refine zBx (fun _ => ?_) | refine zPt ?_ | refine zPf ?_ | refine zE ?_ | refine zEA ?_ | refine zNot ?_ | refine zBd ?_ | refine zBs ?_ | refine zFn ?_ | refine zK1 ?_ | refine zK2 ?_ | refine ac_seq ?_ | refine ac_block ?_ | refine ac_region ?_ | refine ac_skip ?_ | refine ac_exit ?_ | refine ac_ret ?_ | refine zT ?_ | refine zF ?_)
        first | refine zR ?_ | refine zQ ?_
        rw [hno (by rw [big400_eq, d1]; rfl)]; rfl
    · have hj' : j = all.length := by have : ¬ j < all.length := by simpa using h
                                      omega
      subst hj'
      rw [List.take_length] at hja
      rw [hja] at hbig
      have h400 : all.length ≤ 400 := by
        have := hbig
        simp only [V.fitB, Bool.and_eq_true, decide_eq_true_eq] at this
        omega
      repeat (first | refine zNil ?_ | refine zOp ?_ | refine zOpn ?_ | refine zNo ?_ | refine zNon ?_ | refine zUn ?_ | refine zUnn ?_ | refine zYes ?_ | refine zYesn ?_ | (refine zkL ?_; first | refine zL1 ?_ | refine zL2 ?_ | refine zL3 ?_ | refine zLp ?_) | refine zM ?_ | (refine zkF ?_; first | refine zF1 ?_ | refine zF2 ?_ | refine zF3 ?_) | refine zA ?_ | (refine zkB ?_; first | refine zC5 ?_ | refine zC6 ?_ | refine zC1 ?_ | refine zC2 ?_ | refine zC3 ?_ | refine zC4 ?_ | refine zS5 ?_ | refine zS6 ?_ | refine zS1 ?_ | refine zS2 ?_ | refine zS3 ?_ | refine zS4 ?_ | refine zInc ?_ | refine zQ1 ?_ | refine zQ2 ?_ | refine zQ3 ?_ | refine zQ4 ?_ | refine zQ5 ?_ | refine zQ6 ?_) | (refine zkI ?_; first | refine zN1 (fun hlen => ?_) | refine zN2 (fun hlen => ?_) | refine zN3 ?_ | refine zN4 ?_ | refine zAp (fun _ => ?_)) | refine zS ?_ | refine zAl (fun _ => ?_) | refine zBx (fun _ => ?_) | refine zPt ?_ | refine zPf ?_ | refine zE ?_ | refine zEA ?_ | refine zNot ?_ | refine zBd ?_ | refine zBs ?_ | refine zFn ?_ | refine zK1 ?_ | refine zK2 ?_ | refine ac_seq ?_ | refine ac_block ?_ | refine ac_region ?_ | refine ac_skip ?_ | refine ac_exit ?_ | refine ac_ret ?_ | refine zT ?_ | refine zF ?_)
      refine x_loop [2, 10, 11, 12, 13, 14, 71, 72, 73, 74, 75, 76, 77, 78, 79, 80, 81, 82, 83, 84, 85, 86, 87, 88, 89, 90, 91, 92, 93, 94, 95, 96, 97, 98, 99, 100, 101, 102, 103, 104, 105, 106, 107, 108, 109, 110, 111, 112, 113, 114, 115, 116, 117, 118, 119, 120, 121, 122, 123, 124, 125, 126, 127, 128, 129, 130, 131, 132, 133] (fun y : Nat => [(71, .c (.lit (.int .i64 (y : Nat))))]) (fun _ => [.row u 141 5 all.length (all.flatMap atTs)])
        (fun y => y ≤ all.length ∧ (all.take y).all (fun x => formP x.1 x.2) = true) (fun y => all.length - y) 0 ⟨Nat.zero_le _, by simp⟩ ⟨rfl, trivial⟩ rfl ?_
      rintro j ⟨hj, hjf⟩
      repeat (first | refine zNil ?_ | refine zOp ?_ | refine zOpn ?_ | refine zNo ?_ | refine zNon ?_ | refine zUn ?_ | refine zUnn ?_ | refine zYes ?_ | refine zYesn ?_ | (refine zkL ?_; first | refine zL1 ?_ | refine zL2 ?_ | refine zL3 ?_ | refine zLp ?_) | refine zM ?_ | (refine zkF ?_; first | refine zF1 ?_ | refine zF2 ?_ | refine zF3 ?_) | refine zA ?_ | (refine zkB ?_; first | refine zC5 ?_ | refine zC6 ?_ | refine zC1 ?_ | refine zC2 ?_ | refine zC3 ?_ | refine zC4 ?_ | refine zS5 ?_ | refine zS6 ?_ | refine zS1 ?_ | refine zS2 ?_ | refine zS3 ?_ | refine zS4 ?_ | refine zInc ?_ | refine zQ1 ?_ | refine zQ2 ?_ | refine zQ3 ?_ | refine zQ4 ?_ | refine zQ5 ?_ | refine zQ6 ?_) | (refine zkI ?_; first | refine zN1 (fun hlen => ?_) | refine zN2 (fun hlen => ?_) | refine zN3 ?_ | refine zN4 ?_ | refine zAp (fun _ => ?_)) | refine zS ?_ | refine zAl (fun _ => ?_) | refine zBx (fun _ => ?_) | refine zPt ?_ | refine zPf ?_ | refine zE ?_ | refine zEA ?_ | refine zNot ?_ | refine zBd ?_ | refine zBs ?_ | refine zFn ?_ | refine zK1 ?_ | refine zK2 ?_ | refine ac_seq ?_ | refine ac_block ?_ | refine ac_region ?_ | refine ac_skip ?_ | refine ac_exit ?_ | refine ac_ret ?_ | refine zT ?_ | refine zF ?_)
      refine x_cond rfl (fun h => ?_) (fun h => ?_)
      · have hj' : j < all.length := by simpa using h
        obtain ⟨x, hx⟩ := nth hj'
        have hsa := all_snoc (fun x => formP x.1 x.2) hx
        have hsub := hlev.sub x (List.mem_of_getElem? hx)
        obtain ⟨⟨ka, na, ta, la⟩, d⟩ := x
        have hla : la.length ≤ 400 := by
          have h1 := V.len_sizes la
          simp only [V.size] at hsub hdone
          omega
        have hno : formN (.mk ka na ta la) = false → (V.mk k0 n0 t0 l0).check = 3 := fun hb => by
          rw [V.check, hbig, ← hdone.2 formP, all_no _ hx hb]; rfl
        repeat (first | refine zNil ?_ | refine zOp ?_ | refine zOpn ?_ | refine zNo ?_ | refine zNon ?_ | refine zUn ?_ | refine zUnn ?_ | refine zYes ?_ | refine zYesn ?_ | (refine zkL ?_; first | refine zL1 ?_ | refine zL2 ?_ | refine zL3 ?_ | refine zLp ?_) | refine zM ?_ | (refine zkF ?_; first | refine zF1 ?_ | refine zF2 ?_ | refine zF3 ?_) | refine zA ?_ | (refine zkB ?_; first | refine zC5 ?_ | refine zC6 ?_ | refine zC1 ?_ | refine zC2 ?_ | refine zC3 ?_ | refine zC4 ?_ | refine zS5 ?_ | refine zS6 ?_ | refine zS1 ?_ | refine zS2 ?_ | refine zS3 ?_ | refine zS4 ?_ | refine zInc ?_ | refine zQ1 ?_ | refine zQ2 ?_ | refine zQ3 ?_ | refine zQ4 ?_ | refine zQ5 ?_ | refine zQ6 ?_) | (refine zkI ?_; first | refine zN1 (fun hlen => ?_) | refine zN2 (fun hlen => ?_) | refine zN3 ?_ | refine zN4 ?_ | refine zAp (fun _ => ?_)) | refine zS ?_ | refine zAl (fun _ => ?_) | refine zBx (fun _ => ?_) | refine zPt ?_ | refine zPf ?_ | refine zE ?_ | refine zEA ?_ | refine zNot ?_ | refine zBd ?_ | refine zBs ?_ | refine zFn ?_ | refine zK1 ?_ | refine zK2 ?_ | refine ac_seq ?_ | refine ac_block ?_ | refine ac_region ?_ | refine ac_skip ?_ | refine ac_exit ?_ | refine ac_ret ?_ | refine zT ?_ | refine zF ?_)
        refine zIxo j hj' ?_
        repeat (first | refine zNil ?_ | refine zOp ?_ | refine zOpn ?_ | refine zNo ?_ | refine zNon ?_ | refine zUn ?_ | refine zUnn ?_ | refine zYes ?_ | refine zYesn ?_ | (refine zkL ?_; first | refine zL1 ?_ | refine zL2 ?_ | refine zL3 ?_ | refine zLp ?_) | refine zM ?_ | (refine zkF ?_; first | refine zF1 ?_ | refine zF2 ?_ | refine zF3 ?_) | refine zA ?_ | (refine zkB ?_; first | refine zC5 ?_ | refine zC6 ?_ | refine zC1 ?_ | refine zC2 ?_ | refine zC3 ?_ | refine zC4 ?_ | refine zS5 ?_ | refine zS6 ?_ | refine zS1 ?_ | refine zS2 ?_ | refine zS3 ?_ | refine zS4 ?_ | refine zInc ?_ | refine zQ1 ?_ | refine zQ2 ?_ | refine zQ3 ?_ | refine zQ4 ?_ | refine zQ5 ?_ | refine zQ6 ?_) | (refine zkI ?_; first | refine zN1 (fun hlen => ?_) | refine zN2 (fun hlen => ?_) | refine zN3 ?_ | refine zN4 ?_ | refine zAp (fun _ => ?_)) | refine zS ?_ | refine zAl (fun _ => ?_) | refine zBx (fun _ => ?_) | refine zPt ?_ | refine zPf ?_ | refine zE ?_ | refine zEA ?_ | refine zNot ?_ | refine zBd ?_ | refine zBs ?_ | refine zFn ?_ | refine zK1 ?_ | refine zK2 ?_ | refine ac_seq ?_ | refine ac_block ?_ | refine ac_region ?_ | refine ac_skip ?_ | refine ac_exit ?_ | refine ac_ret ?_ | refine zT ?_ | refine zF ?_)
        refine zElo (flat_at atTs 5 atTs_len hx) (atTs_len _) ?_
        repeat (first | refine zNil ?_ | refine zOp ?_ | refine zOpn ?_ | refine zNo ?_ | refine zNon ?_ | refine zUn ?_ | refine zUnn ?_ | refine zYes ?_ | refine zYesn ?_ | (refine zkL ?_; first | refine zL1 ?_ | refine zL2 ?_ | refine zL3 ?_ | refine zLp ?_) | refine zM ?_ | (refine zkF ?_; first | refine zF1 ?_ | refine zF2 ?_ | refine zF3 ?_) | refine zA ?_ | (refine zkB ?_; first | refine zC5 ?_ | refine zC6 ?_ | refine zC1 ?_ | refine zC2 ?_ | refine zC3 ?_ | refine zC4 ?_ | refine zS5 ?_ | refine zS6 ?_ | refine zS1 ?_ | refine zS2 ?_ | refine zS3 ?_ | refine zS4 ?_ | refine zInc ?_ | refine zQ1 ?_ | refine zQ2 ?_ | refine zQ3 ?_ | refine zQ4 ?_ | refine zQ5 ?_ | refine zQ6 ?_) | (refine zkI ?_; first | refine zN1 (fun hlen => ?_) | refine zN2 (fun hlen => ?_) | refine zN3 ?_ | refine zN4 ?_ | refine zAp (fun _ => ?_)) | refine zS ?_ | refine zAl (fun _ => ?_) | refine zBx (fun _ => ?_) | refine zPt ?_ | refine zPf ?_ | refine zE ?_ | refine zEA ?_ | refine zNot ?_ | refine zBd ?_ | refine zBs ?_ | refine zFn ?_ | refine zK1 ?_ | refine zK2 ?_)
        rename_i b4
        refine ac_seq ?_
        refine ac_region ?_
        repeat (first | refine zNil ?_ | refine zOp ?_ | refine zOpn ?_ | refine zNo ?_ | refine zNon ?_ | refine zUn ?_ | refine zUnn ?_ | refine zYes ?_ | refine zYesn ?_ | (refine zkL ?_; first | refine zL1 ?_ | refine zL2 ?_ | refine zL3 ?_ | refine zLp ?_) | refine zM ?_ | (refine zkF ?_; first | refine zF1 ?_ | refine zF2 ?_ | refine zF3 ?_) | refine zA ?_ | (refine zkB ?_; first | refine zC5 ?_ | refine zC6 ?_ | refine zC1 ?_ | refine zC2 ?_ | refine zC3 ?_ | refine zC4 ?_ | refine zS5 ?_ | refine zS6 ?_ | refine zS1 ?_ | refine zS2 ?_ | refine zS3 ?_ | refine zS4 ?_ | refine zInc ?_ | refine zQ1 ?_ | refine zQ2 ?_ | refine zQ3 ?_ | refine zQ4 ?_ | refine zQ5 ?_ | refine zQ6 ?_) | (refine zkI ?_; first | refine zN1 (fun hlen => ?_) | refine zN2 (fun hlen => ?_) | refine zN3 ?_ | refine zN4 ?_ | refine zAp (fun _ => ?_)) | refine zS ?_ | refine zAl (fun _ => ?_) | refine zBx (fun _ => ?_) | refine zPt ?_ | refine zPf ?_ | refine zE ?_ | refine zEA ?_ | refine zNot ?_ | refine zBd ?_ | refine zBs ?_ | refine zFn ?_ | refine zK1 ?_ | refine zK2 ?_)
        refine ac_seq ?_
        refine x_join [75, 76, 77, 78, 79, 80, 81, 82, 83, 84, 85, 86, 87, 88, 89, 90, 91, 92, 93, 94, 95, 96, 97, 98, 99, 100, 2, 11, 12] (fun y : {y : ByteArray × Int // okB na ta la.length y.1 y.2 = formN (.mk ka na ta la) ∧ y.1.size ≤ 2} => [(11, .c (.lit (.string y.1.1))), (12, .c (.lit (.int .i64 y.1.2)))])
          (fun _ => [.row u 141 5 all.length (all.flatMap atTs), .box b4 141 [.c (.lit (.int .i64 ka)), .c (.lit (.int .i64 na)), .c (.lit (.string ta)), .c (.row la.length 4 (V.all la)), .c (.lit (.int .i64 (d : Int)))]]) ?_ ?_
        rotate_left
        · skip
          cases e1 : decide (ka = 1)
          · skip
            cases e2 : decide (ka = 2)
            · skip
              cases e6 : decide (ka = 6)
              · skip
                cases e3 : decide (ka = 3)
                · skip
                  cases e4 : decide (ka = 4)
                  · skip
                    cases e5 : decide (ka = 5)
                    · skip
                      cases e7 : decide (ka = 7)
                      · skip
                        cases e8 : decide (ka = 8)
                        · skip
                          repeat (first | refine zNil ?_ | refine zOp ?_ | refine zOpn ?_ | refine zNo ?_ | refine zNon ?_ | refine zUn ?_ | refine zUnn ?_ | refine zYes ?_ | refine zYesn ?_ | (refine zkL ?_; first | refine zL1 ?_ | refine zL2 ?_ | refine zL3 ?_ | refine zLp ?_) | refine zM ?_ | (refine zkF ?_; first | refine zF1 ?_ | refine zF2 ?_ | refine zF3 ?_) | refine zA ?_ | (refine zkB ?_; first | refine zC5 ?_ | refine zC6 ?_ | refine zC1 ?_ | refine zC2 ?_ | refine zC3 ?_ | refine zC4 ?_ | refine zS5 ?_ | refine zS6 ?_ | refine zS1 ?_ | refine zS2 ?_ | refine zS3 ?_ | refine zS4 ?_ | refine zInc ?_ | refine zQ1 ?_ | refine zQ2 ?_ | refine zQ3 ?_ | refine zQ4 ?_ | refine zQ5 ?_ | refine zQ6 ?_) | (refine zkI ?_; first | refine zN1 (fun hlen => ?_) | refine zN2 (fun hlen => ?_) | refine zN3 ?_ | refine zN4 ?_ | refine zAp (fun _ => ?_)) | refine zS ?_ | refine zAl (fun _ => ?_) | refine zBx (fun _ => ?_) | refine zPt ?_ | refine zPf ?_ | refine zE ?_ | refine zEA ?_ | refine zNot ?_ | refine zBd ?_ | refine zBs ?_ | refine zFn ?_ | refine zK1 ?_ | refine zK2 ?_ | refine ac_seq ?_ | refine ac_block ?_ | refine ac_region ?_ | refine ac_skip ?_ | refine ac_exit ?_ | refine ac_ret ?_ | refine zT ?_ | refine zF ?_)
                          first | refine zR ?_ | refine zQ ?_
                          rw [hno (by simp_all [formN])]; rfl
                        · obtain rfl := of_decide_eq_true e8
                          repeat (first | refine zNil ?_ | refine zOp ?_ | refine zOpn ?_ | refine zNo ?_ | refine zNon ?_ | refine zUn ?_ | refine zUnn ?_ | refine zYes ?_ | refine zYesn ?_ | (refine zkL ?_; first | refine zL1 ?_ | refine zL2 ?_ | refine zL3 ?_ | refine zLp ?_) | refine zM ?_ | (refine zkF ?_; first | refine zF1 ?_ | refine zF2 ?_ | refine zF3 ?_) | refine zA ?_ | (refine zkB ?_; first | refine zC5 ?_ | refine zC6 ?_ | refine zC1 ?_ | refine zC2 ?_ | refine zC3 ?_ | refine zC4 ?_ | refine zS5 ?_ | refine zS6 ?_ | refine zS1 ?_ | refine zS2 ?_ | refine zS3 ?_ | refine zS4 ?_ | refine zInc ?_ | refine zQ1 ?_ | refine zQ2 ?_ | refine zQ3 ?_ | refine zQ4 ?_ | refine zQ5 ?_ | refine zQ6 ?_) | (refine zkI ?_; first | refine zN1 (fun hlen => ?_) | refine zN2 (fun hlen => ?_) | refine zN3 ?_ | refine zN4 ?_ | refine zAp (fun _ => ?_)) | refine zS ?_ | refine zAl (fun _ => ?_) | refine zBx (fun _ => ?_) | refine zPt ?_ | refine zPf ?_ | refine zE ?_ | refine zEA ?_ | refine zNot ?_ | refine zBd ?_ | refine zBs ?_ | refine zFn ?_ | refine zK1 ?_ | refine zK2 ?_ | refine ac_seq ?_ | refine ac_block ?_ | refine ac_region ?_ | refine ac_skip ?_ | refine ac_exit ?_ | refine ac_ret ?_ | refine zT ?_ | refine zF ?_)
                          exact ⟨⟨(⟨#[]⟩, 1), ok8 _ _ _, by decide⟩, x_wkd 2 ⟨rfl, rfl, trivial⟩ rfl (by repeat (first | exact ag_refl | refine ag_upd rfl ?_ | refine ag_at rfl rfl ?_))⟩
                      · obtain rfl := of_decide_eq_true e7
                        repeat (first | refine zNil ?_ | refine zOp ?_ | refine zOpn ?_ | refine zNo ?_ | refine zNon ?_ | refine zUn ?_ | refine zUnn ?_ | refine zYes ?_ | refine zYesn ?_ | (refine zkL ?_; first | refine zL1 ?_ | refine zL2 ?_ | refine zL3 ?_ | refine zLp ?_) | refine zM ?_ | (refine zkF ?_; first | refine zF1 ?_ | refine zF2 ?_ | refine zF3 ?_) | refine zA ?_ | (refine zkB ?_; first | refine zC5 ?_ | refine zC6 ?_ | refine zC1 ?_ | refine zC2 ?_ | refine zC3 ?_ | refine zC4 ?_ | refine zS5 ?_ | refine zS6 ?_ | refine zS1 ?_ | refine zS2 ?_ | refine zS3 ?_ | refine zS4 ?_ | refine zInc ?_ | refine zQ1 ?_ | refine zQ2 ?_ | refine zQ3 ?_ | refine zQ4 ?_ | refine zQ5 ?_ | refine zQ6 ?_) | (refine zkI ?_; first | refine zN1 (fun hlen => ?_) | refine zN2 (fun hlen => ?_) | refine zN3 ?_ | refine zN4 ?_ | refine zAp (fun _ => ?_)) | refine zS ?_ | refine zAl (fun _ => ?_) | refine zBx (fun _ => ?_) | refine zPt ?_ | refine zPf ?_ | refine zE ?_ | refine zEA ?_ | refine zNot ?_ | refine zBd ?_ | refine zBs ?_ | refine zFn ?_ | refine zK1 ?_ | refine zK2 ?_ | refine ac_seq ?_ | refine ac_block ?_ | refine ac_region ?_ | refine ac_skip ?_ | refine ac_exit ?_ | refine ac_ret ?_ | refine zT ?_ | refine zF ?_)
                        exact ⟨⟨(⟨#[110, 116]⟩, 400), ok7 _ _ _ hla, by decide⟩, x_wkd 2 ⟨rfl, rfl, trivial⟩ rfl (by repeat (first | exact ag_refl | refine ag_upd rfl ?_ | refine ag_at rfl rfl ?_))⟩
                    · obtain rfl := of_decide_eq_true e5
                      cases e : decide (ta = ⟨#[]⟩)
                      · repeat (first | refine zNil ?_ | refine zOp ?_ | refine zOpn ?_ | refine zNo ?_ | refine zNon ?_ | refine zUn ?_ | refine zUnn ?_ | refine zYes ?_ | refine zYesn ?_ | (refine zkL ?_; first | refine zL1 ?_ | refine zL2 ?_ | refine zL3 ?_ | refine zLp ?_) | refine zM ?_ | (refine zkF ?_; first | refine zF1 ?_ | refine zF2 ?_ | refine zF3 ?_) | refine zA ?_ | (refine zkB ?_; first | refine zC5 ?_ | refine zC6 ?_ | refine zC1 ?_ | refine zC2 ?_ | refine zC3 ?_ | refine zC4 ?_ | refine zS5 ?_ | refine zS6 ?_ | refine zS1 ?_ | refine zS2 ?_ | refine zS3 ?_ | refine zS4 ?_ | refine zInc ?_ | refine zQ1 ?_ | refine zQ2 ?_ | refine zQ3 ?_ | refine zQ4 ?_ | refine zQ5 ?_ | refine zQ6 ?_) | (refine zkI ?_; first | refine zN1 (fun hlen => ?_) | refine zN2 (fun hlen => ?_) | refine zN3 ?_ | refine zN4 ?_ | refine zAp (fun _ => ?_)) | refine zS ?_ | refine zAl (fun _ => ?_) | refine zBx (fun _ => ?_) | refine zPt ?_ | refine zPf ?_ | refine zE ?_ | refine zEA ?_ | refine zNot ?_ | refine zBd ?_ | refine zBs ?_ | refine zFn ?_ | refine zK1 ?_ | refine zK2 ?_ | refine ac_seq ?_ | refine ac_block ?_ | refine ac_region ?_ | refine ac_skip ?_ | refine ac_exit ?_ | refine ac_ret ?_ | refine zT ?_ | refine zF ?_)
                        exact ⟨⟨(⟨#[116]⟩, 400), ok5 _ _ _ hla e, by decide⟩, x_wkd 2 ⟨rfl, rfl, trivial⟩ rfl (by repeat (first | exact ag_refl | refine ag_upd rfl ?_ | refine ag_at rfl rfl ?_))⟩
                      · repeat (first | refine zNil ?_ | refine zOp ?_ | refine zOpn ?_ | refine zNo ?_ | refine zNon ?_ | refine zUn ?_ | refine zUnn ?_ | refine zYes ?_ | refine zYesn ?_ | (refine zkL ?_; first | refine zL1 ?_ | refine zL2 ?_ | refine zL3 ?_ | refine zLp ?_) | refine zM ?_ | (refine zkF ?_; first | refine zF1 ?_ | refine zF2 ?_ | refine zF3 ?_) | refine zA ?_ | (refine zkB ?_; first | refine zC5 ?_ | refine zC6 ?_ | refine zC1 ?_ | refine zC2 ?_ | refine zC3 ?_ | refine zC4 ?_ | refine zS5 ?_ | refine zS6 ?_ | refine zS1 ?_ | refine zS2 ?_ | refine zS3 ?_ | refine zS4 ?_ | refine zInc ?_ | refine zQ1 ?_ | refine zQ2 ?_ | refine zQ3 ?_ | refine zQ4 ?_ | refine zQ5 ?_ | refine zQ6 ?_) | (refine zkI ?_; first | refine zN1 (fun hlen => ?_) | refine zN2 (fun hlen => ?_) | refine zN3 ?_ | refine zN4 ?_ | refine zAp (fun _ => ?_)) | refine zS ?_ | refine zAl (fun _ => ?_) | refine zBx (fun _ => ?_) | refine zPt ?_ | refine zPf ?_ | refine zE ?_ | refine zEA ?_ | refine zNot ?_ | refine zBd ?_ | refine zBs ?_ | refine zFn ?_ | refine zK1 ?_ | refine zK2 ?_ | refine ac_seq ?_ | refine ac_block ?_ | refine ac_region ?_ | refine ac_skip ?_ | refine ac_exit ?_ | refine ac_ret ?_ | refine zT ?_ | refine zF ?_)
                        first | refine zR ?_ | refine zQ ?_
                        rw [hno (by simp [formN, e])]; rfl
                  · obtain rfl := of_decide_eq_true e4
                    repeat (first | refine zNil ?_ | refine zOp ?_ | refine zOpn ?_ | refine zNo ?_ | refine zNon ?_ | refine zUn ?_ | refine zUnn ?_ | refine zYes ?_ | refine zYesn ?_ | (refine zkL ?_; first | refine zL1 ?_ | refine zL2 ?_ | refine zL3 ?_ | refine zLp ?_) | refine zM ?_ | (refine zkF ?_; first | refine zF1 ?_ | refine zF2 ?_ | refine zF3 ?_) | refine zA ?_ | (refine zkB ?_; first | refine zC5 ?_ | refine zC6 ?_ | refine zC1 ?_ | refine zC2 ?_ | refine zC3 ?_ | refine zC4 ?_ | refine zS5 ?_ | refine zS6 ?_ | refine zS1 ?_ | refine zS2 ?_ | refine zS3 ?_ | refine zS4 ?_ | refine zInc ?_ | refine zQ1 ?_ | refine zQ2 ?_ | refine zQ3 ?_ | refine zQ4 ?_ | refine zQ5 ?_ | refine zQ6 ?_) | (refine zkI ?_; first | refine zN1 (fun hlen => ?_) | refine zN2 (fun hlen => ?_) | refine zN3 ?_ | refine zN4 ?_ | refine zAp (fun _ => ?_)) | refine zS ?_ | refine zAl (fun _ => ?_) | refine zBx (fun _ => ?_) | refine zPt ?_ | refine zPf ?_ | refine zE ?_ | refine zEA ?_ | refine zNot ?_ | refine zBd ?_ | refine zBs ?_ | refine zFn ?_ | refine zK1 ?_ | refine zK2 ?_ | refine ac_seq ?_ | refine ac_block ?_ | refine ac_region ?_ | refine ac_skip ?_ | refine ac_exit ?_ | refine ac_ret ?_ | refine zT ?_ | refine zF ?_)
                    exact ⟨⟨(⟨#[116]⟩, 0), ok4 _ _ _, by decide⟩, x_wkd 2 ⟨rfl, rfl, trivial⟩ rfl (by repeat (first | exact ag_refl | refine ag_upd rfl ?_ | refine ag_at rfl rfl ?_))⟩
                · obtain rfl := of_decide_eq_true e3
                  cases e : decide (na = 1)
                  · repeat (first | refine zNil ?_ | refine zOp ?_ | refine zOpn ?_ | refine zNo ?_ | refine zNon ?_ | refine zUn ?_ | refine zUnn ?_ | refine zYes ?_ | refine zYesn ?_ | (refine zkL ?_; first | refine zL1 ?_ | refine zL2 ?_ | refine zL3 ?_ | refine zLp ?_) | refine zM ?_ | (refine zkF ?_; first | refine zF1 ?_ | refine zF2 ?_ | refine zF3 ?_) | refine zA ?_ | (refine zkB ?_; first | refine zC5 ?_ | refine zC6 ?_ | refine zC1 ?_ | refine zC2 ?_ | refine zC3 ?_ | refine zC4 ?_ | refine zS5 ?_ | refine zS6 ?_ | refine zS1 ?_ | refine zS2 ?_ | refine zS3 ?_ | refine zS4 ?_ | refine zInc ?_ | refine zQ1 ?_ | refine zQ2 ?_ | refine zQ3 ?_ | refine zQ4 ?_ | refine zQ5 ?_ | refine zQ6 ?_) | (refine zkI ?_; first | refine zN1 (fun hlen => ?_) | refine zN2 (fun hlen => ?_) | refine zN3 ?_ | refine zN4 ?_ | refine zAp (fun _ => ?_)) | refine zS ?_ | refine zAl (fun _ => ?_) | refine zBx (fun _ => ?_) | refine zPt ?_ | refine zPf ?_ | refine zE ?_ | refine zEA ?_ | refine zNot ?_ | refine zBd ?_ | refine zBs ?_ | refine zFn ?_ | refine zK1 ?_ | refine zK2 ?_ | refine ac_seq ?_ | refine ac_block ?_ | refine ac_region ?_ | refine ac_skip ?_ | refine ac_exit ?_ | refine ac_ret ?_ | refine zT ?_ | refine zF ?_)
                    exact ⟨⟨(⟨#[]⟩, 0), ok3 _ _ _ e, by decide⟩, x_wkd 2 ⟨rfl, rfl, trivial⟩ rfl (by repeat (first | exact ag_refl | refine ag_upd rfl ?_ | refine ag_at rfl rfl ?_))⟩
                  · repeat (first | refine zNil ?_ | refine zOp ?_ | refine zOpn ?_ | refine zNo ?_ | refine zNon ?_ | refine zUn ?_ | refine zUnn ?_ | refine zYes ?_ | refine zYesn ?_ | (refine zkL ?_; first | refine zL1 ?_ | refine zL2 ?_ | refine zL3 ?_ | refine zLp ?_) | refine zM ?_ | (refine zkF ?_; first | refine zF1 ?_ | refine zF2 ?_ | refine zF3 ?_) | refine zA ?_ | (refine zkB ?_; first | refine zC5 ?_ | refine zC6 ?_ | refine zC1 ?_ | refine zC2 ?_ | refine zC3 ?_ | refine zC4 ?_ | refine zS5 ?_ | refine zS6 ?_ | refine zS1 ?_ | refine zS2 ?_ | refine zS3 ?_ | refine zS4 ?_ | refine zInc ?_ | refine zQ1 ?_ | refine zQ2 ?_ | refine zQ3 ?_ | refine zQ4 ?_ | refine zQ5 ?_ | refine zQ6 ?_) | (refine zkI ?_; first | refine zN1 (fun hlen => ?_) | refine zN2 (fun hlen => ?_) | refine zN3 ?_ | refine zN4 ?_ | refine zAp (fun _ => ?_)) | refine zS ?_ | refine zAl (fun _ => ?_) | refine zBx (fun _ => ?_) | refine zPt ?_ | refine zPf ?_ | refine zE ?_ | refine zEA ?_ | refine zNot ?_ | refine zBd ?_ | refine zBs ?_ | refine zFn ?_ | refine zK1 ?_ | refine zK2 ?_ | refine ac_seq ?_ | refine ac_block ?_ | refine ac_region ?_ | refine ac_skip ?_ | refine ac_exit ?_ | refine ac_ret ?_ | refine zT ?_ | refine zF ?_)
                    exact ⟨⟨(⟨#[110]⟩, 0), ok3' _ _ _ e, by decide⟩, x_wkd 2 ⟨rfl, rfl, trivial⟩ rfl (by repeat (first | exact ag_refl | refine ag_upd rfl ?_ | refine ag_at rfl rfl ?_))⟩
              · obtain rfl := of_decide_eq_true e6
                repeat (first | refine zNil ?_ | refine zOp ?_ | refine zOpn ?_ | refine zNo ?_ | refine zNon ?_ | refine zUn ?_ | refine zUnn ?_ | refine zYes ?_ | refine zYesn ?_ | (refine zkL ?_; first | refine zL1 ?_ | refine zL2 ?_ | refine zL3 ?_ | refine zLp ?_) | refine zM ?_ | (refine zkF ?_; first | refine zF1 ?_ | refine zF2 ?_ | refine zF3 ?_) | refine zA ?_ | (refine zkB ?_; first | refine zC5 ?_ | refine zC6 ?_ | refine zC1 ?_ | refine zC2 ?_ | refine zC3 ?_ | refine zC4 ?_ | refine zS5 ?_ | refine zS6 ?_ | refine zS1 ?_ | refine zS2 ?_ | refine zS3 ?_ | refine zS4 ?_ | refine zInc ?_ | refine zQ1 ?_ | refine zQ2 ?_ | refine zQ3 ?_ | refine zQ4 ?_ | refine zQ5 ?_ | refine zQ6 ?_) | (refine zkI ?_; first | refine zN1 (fun hlen => ?_) | refine zN2 (fun hlen => ?_) | refine zN3 ?_ | refine zN4 ?_ | refine zAp (fun _ => ?_)) | refine zS ?_ | refine zAl (fun _ => ?_) | refine zBx (fun _ => ?_) | refine zPt ?_ | refine zPf ?_ | refine zE ?_ | refine zEA ?_ | refine zNot ?_ | refine zBd ?_ | refine zBs ?_ | refine zFn ?_ | refine zK1 ?_ | refine zK2 ?_ | refine ac_seq ?_ | refine ac_block ?_ | refine ac_region ?_ | refine ac_skip ?_ | refine ac_exit ?_ | refine ac_ret ?_ | refine zT ?_ | refine zF ?_)
                exact ⟨⟨(⟨#[110]⟩, 0), ok6 _ _ _, by decide⟩, x_wkd 2 ⟨rfl, rfl, trivial⟩ rfl (by repeat (first | exact ag_refl | refine ag_upd rfl ?_ | refine ag_at rfl rfl ?_))⟩
            · obtain rfl := of_decide_eq_true e2
              repeat (first | refine zNil ?_ | refine zOp ?_ | refine zOpn ?_ | refine zNo ?_ | refine zNon ?_ | refine zUn ?_ | refine zUnn ?_ | refine zYes ?_ | refine zYesn ?_ | (refine zkL ?_; first | refine zL1 ?_ | refine zL2 ?_ | refine zL3 ?_ | refine zLp ?_) | refine zM ?_ | (refine zkF ?_; first | refine zF1 ?_ | refine zF2 ?_ | refine zF3 ?_) | refine zA ?_ | (refine zkB ?_; first | refine zC5 ?_ | refine zC6 ?_ | refine zC1 ?_ | refine zC2 ?_ | refine zC3 ?_ | refine zC4 ?_ | refine zS5 ?_ | refine zS6 ?_ | refine zS1 ?_ | refine zS2 ?_ | refine zS3 ?_ | refine zS4 ?_ | refine zInc ?_ | refine zQ1 ?_ | refine zQ2 ?_ | refine zQ3 ?_ | refine zQ4 ?_ | refine zQ5 ?_ | refine zQ6 ?_) | (refine zkI ?_; first | refine zN1 (fun hlen => ?_) | refine zN2 (fun hlen => ?_) | refine zN3 ?_ | refine zN4 ?_ | refine zAp (fun _ => ?_)) | refine zS ?_ | refine zAl (fun _ => ?_) | refine zBx (fun _ => ?_) | refine zPt ?_ | refine zPf ?_ | refine zE ?_ | refine zEA ?_ | refine zNot ?_ | refine zBd ?_ | refine zBs ?_ | refine zFn ?_ | refine zK1 ?_ | refine zK2 ?_ | refine ac_seq ?_ | refine ac_block ?_ | refine ac_region ?_ | refine ac_skip ?_ | refine ac_exit ?_ | refine ac_ret ?_ | refine zT ?_ | refine zF ?_)
              exact ⟨⟨(⟨#[110]⟩, 0), ok2 _ _ _, by decide⟩, x_wkd 2 ⟨rfl, rfl, trivial⟩ rfl (by repeat (first | exact ag_refl | refine ag_upd rfl ?_ | refine ag_at rfl rfl ?_))⟩
          · obtain rfl := of_decide_eq_true e1
            repeat (first | refine zNil ?_ | refine zOp ?_ | refine zOpn ?_ | refine zNo ?_ | refine zNon ?_ | refine zUn ?_ | refine zUnn ?_ | refine zYes ?_ | refine zYesn ?_ | (refine zkL ?_; first | refine zL1 ?_ | refine zL2 ?_ | refine zL3 ?_ | refine zLp ?_) | refine zM ?_ | (refine zkF ?_; first | refine zF1 ?_ | refine zF2 ?_ | refine zF3 ?_) | refine zA ?_ | (refine zkB ?_; first | refine zC5 ?_ | refine zC6 ?_ | refine zC1 ?_ | refine zC2 ?_ | refine zC3 ?_ | refine zC4 ?_ | refine zS5 ?_ | refine zS6 ?_ | refine zS1 ?_ | refine zS2 ?_ | refine zS3 ?_ | refine zS4 ?_ | refine zInc ?_ | refine zQ1 ?_ | refine zQ2 ?_ | refine zQ3 ?_ | refine zQ4 ?_ | refine zQ5 ?_ | refine zQ6 ?_) | (refine zkI ?_; first | refine zN1 (fun hlen => ?_) | refine zN2 (fun hlen => ?_) | refine zN3 ?_ | refine zN4 ?_ | refine zAp (fun _ => ?_)) | refine zS ?_ | refine zAl (fun _ => ?_) | refine zBx (fun _ => ?_) | refine zPt ?_ | refine zPf ?_ | refine zE ?_ | refine zEA ?_ | refine zNot ?_ | refine zBd ?_ | refine zBs ?_ | refine zFn ?_ | refine zK1 ?_ | refine zK2 ?_ | refine ac_seq ?_ | refine ac_block ?_ | refine ac_region ?_ | refine ac_skip ?_ | refine ac_exit ?_ | refine ac_ret ?_ | refine zT ?_ | refine zF ?_)
            exact ⟨⟨(⟨#[]⟩, 0), ok1 _ _ _, by decide⟩, x_wkd 2 ⟨rfl, rfl, trivial⟩ rfl (by repeat (first | exact ag_refl | refine ag_upd rfl ?_ | refine ag_at rfl rfl ?_))⟩
        rintro ⟨⟨has, most⟩, hy, hsz⟩
        dsimp only at hy hsz ⊢
        have hc1 := containsB_af 110 has.data.toList
        have hc2 := containsB_af 116 has.data.toList
        repeat (first | refine zNil ?_ | refine zOp ?_ | refine zOpn ?_ | refine zNo ?_ | refine zNon ?_ | refine zUn ?_ | refine zUnn ?_ | refine zYes ?_ | refine zYesn ?_ | (refine zkL ?_; first | refine zL1 ?_ | refine zL2 ?_ | refine zL3 ?_ | refine zLp ?_) | refine zM ?_ | (refine zkF ?_; first | refine zF1 ?_ | refine zF2 ?_ | refine zF3 ?_) | refine zA ?_ | (refine zkB ?_; first | refine zC5 ?_ | refine zC6 ?_ | refine zC1 ?_ | refine zC2 ?_ | refine zC3 ?_ | refine zC4 ?_ | refine zS5 ?_ | refine zS6 ?_ | refine zS1 ?_ | refine zS2 ?_ | refine zS3 ?_ | refine zS4 ?_ | refine zInc ?_ | refine zQ1 ?_ | refine zQ2 ?_ | refine zQ3 ?_ | refine zQ4 ?_ | refine zQ5 ?_ | refine zQ6 ?_) | (refine zkI ?_; first | refine zN1 (fun hlen => ?_) | refine zN2 (fun hlen => ?_) | refine zN3 ?_ | refine zN4 ?_ | refine zAp (fun _ => ?_)) | refine zS ?_ | refine zAl (fun _ => ?_) | refine zBx (fun _ => ?_) | refine zPt ?_ | refine zPf ?_ | refine zE ?_ | refine zEA ?_ | refine zNot ?_ | refine zBd ?_ | refine zBs ?_ | refine zFn ?_ | refine zK1 ?_ | refine zK2 ?_ | refine ac_seq ?_ | refine ac_block ?_ | refine ac_region ?_ | refine ac_skip ?_ | refine ac_exit ?_ | refine ac_ret ?_ | refine zT ?_ | refine zF ?_)
        refine zByt (s := has) (by simp only [maxLen]; omega) ?_
        repeat (first | refine zNil ?_ | refine zOp ?_ | refine zOpn ?_ | refine zNo ?_ | refine zNon ?_ | refine zUn ?_ | refine zUnn ?_ | refine zYes ?_ | refine zYesn ?_ | (refine zkL ?_; first | refine zL1 ?_ | refine zL2 ?_ | refine zL3 ?_ | refine zLp ?_) | refine zM ?_ | (refine zkF ?_; first | refine zF1 ?_ | refine zF2 ?_ | refine zF3 ?_) | refine zA ?_ | (refine zkB ?_; first | refine zC5 ?_ | refine zC6 ?_ | refine zC1 ?_ | refine zC2 ?_ | refine zC3 ?_ | refine zC4 ?_ | refine zS5 ?_ | refine zS6 ?_ | refine zS1 ?_ | refine zS2 ?_ | refine zS3 ?_ | refine zS4 ?_ | refine zInc ?_ | refine zQ1 ?_ | refine zQ2 ?_ | refine zQ3 ?_ | refine zQ4 ?_ | refine zQ5 ?_ | refine zQ6 ?_) | (refine zkI ?_; first | refine zN1 (fun hlen => ?_) | refine zN2 (fun hlen => ?_) | refine zN3 ?_ | refine zN4 ?_ | refine zAp (fun _ => ?_)) | refine zS ?_ | refine zAl (fun _ => ?_) | refine zBx (fun _ => ?_) | refine zPt ?_ | refine zPf ?_ | refine zE ?_ | refine zEA ?_ | refine zNot ?_ | refine zBd ?_ | refine zBs ?_ | refine zFn ?_ | refine zK1 ?_ | refine zK2 ?_ | refine ac_seq ?_ | refine ac_block ?_ | refine ac_region ?_ | refine ac_skip ?_ | refine ac_exit ?_ | refine ac_ret ?_ | refine zT ?_ | refine zF ?_)
        refine zCall (hc1) ?_
        rintro _ rfl
        repeat (first | refine zNil ?_ | refine zOp ?_ | refine zOpn ?_ | refine zNo ?_ | refine zNon ?_ | refine zUn ?_ | refine zUnn ?_ | refine zYes ?_ | refine zYesn ?_ | (refine zkL ?_; first | refine zL1 ?_ | refine zL2 ?_ | refine zL3 ?_ | refine zLp ?_) | refine zM ?_ | (refine zkF ?_; first | refine zF1 ?_ | refine zF2 ?_ | refine zF3 ?_) | refine zA ?_ | (refine zkB ?_; first | refine zC5 ?_ | refine zC6 ?_ | refine zC1 ?_ | refine zC2 ?_ | refine zC3 ?_ | refine zC4 ?_ | refine zS5 ?_ | refine zS6 ?_ | refine zS1 ?_ | refine zS2 ?_ | refine zS3 ?_ | refine zS4 ?_ | refine zInc ?_ | refine zQ1 ?_ | refine zQ2 ?_ | refine zQ3 ?_ | refine zQ4 ?_ | refine zQ5 ?_ | refine zQ6 ?_) | (refine zkI ?_; first | refine zN1 (fun hlen => ?_) | refine zN2 (fun hlen => ?_) | refine zN3 ?_ | refine zN4 ?_ | refine zAp (fun _ => ?_)) | refine zS ?_ | refine zAl (fun _ => ?_) | refine zBx (fun _ => ?_) | refine zPt ?_ | refine zPf ?_ | refine zE ?_ | refine zEA ?_ | refine zNot ?_ | refine zBd ?_ | refine zBs ?_ | refine zFn ?_ | refine zK1 ?_ | refine zK2 ?_ | refine ac_seq ?_ | refine ac_block ?_ | refine ac_region ?_ | refine ac_skip ?_ | refine ac_exit ?_ | refine ac_ret ?_ | refine zT ?_ | refine zF ?_)
        refine zByt (s := has) (by simp only [maxLen]; omega) ?_
        repeat (first | refine zNil ?_ | refine zOp ?_ | refine zOpn ?_ | refine zNo ?_ | refine zNon ?_ | refine zUn ?_ | refine zUnn ?_ | refine zYes ?_ | refine zYesn ?_ | (refine zkL ?_; first | refine zL1 ?_ | refine zL2 ?_ | refine zL3 ?_ | refine zLp ?_) | refine zM ?_ | (refine zkF ?_; first | refine zF1 ?_ | refine zF2 ?_ | refine zF3 ?_) | refine zA ?_ | (refine zkB ?_; first | refine zC5 ?_ | refine zC6 ?_ | refine zC1 ?_ | refine zC2 ?_ | refine zC3 ?_ | refine zC4 ?_ | refine zS5 ?_ | refine zS6 ?_ | refine zS1 ?_ | refine zS2 ?_ | refine zS3 ?_ | refine zS4 ?_ | refine zInc ?_ | refine zQ1 ?_ | refine zQ2 ?_ | refine zQ3 ?_ | refine zQ4 ?_ | refine zQ5 ?_ | refine zQ6 ?_) | (refine zkI ?_; first | refine zN1 (fun hlen => ?_) | refine zN2 (fun hlen => ?_) | refine zN3 ?_ | refine zN4 ?_ | refine zAp (fun _ => ?_)) | refine zS ?_ | refine zAl (fun _ => ?_) | refine zBx (fun _ => ?_) | refine zPt ?_ | refine zPf ?_ | refine zE ?_ | refine zEA ?_ | refine zNot ?_ | refine zBd ?_ | refine zBs ?_ | refine zFn ?_ | refine zK1 ?_ | refine zK2 ?_ | refine ac_seq ?_ | refine ac_block ?_ | refine ac_region ?_ | refine ac_skip ?_ | refine ac_exit ?_ | refine ac_ret ?_ | refine zT ?_ | refine zF ?_)
        refine zCall (hc2) ?_
        rintro _ rfl
        cases e1 : decide (na = 0)
        · cases c1 : (has.data.toList.any fun b => decide ((110 : UInt8) = b))
          · skip
            repeat (first | refine zNil ?_ | refine zOp ?_ | refine zOpn ?_ | refine zNo ?_ | refine zNon ?_ | refine zUn ?_ | refine zUnn ?_ | refine zYes ?_ | refine zYesn ?_ | (refine zkL ?_; first | refine zL1 ?_ | refine zL2 ?_ | refine zL3 ?_ | refine zLp ?_) | refine zM ?_ | (refine zkF ?_; first | refine zF1 ?_ | refine zF2 ?_ | refine zF3 ?_) | refine zA ?_ | (refine zkB ?_; first | refine zC5 ?_ | refine zC6 ?_ | refine zC1 ?_ | refine zC2 ?_ | refine zC3 ?_ | refine zC4 ?_ | refine zS5 ?_ | refine zS6 ?_ | refine zS1 ?_ | refine zS2 ?_ | refine zS3 ?_ | refine zS4 ?_ | refine zInc ?_ | refine zQ1 ?_ | refine zQ2 ?_ | refine zQ3 ?_ | refine zQ4 ?_ | refine zQ5 ?_ | refine zQ6 ?_) | (refine zkI ?_; first | refine zN1 (fun hlen => ?_) | refine zN2 (fun hlen => ?_) | refine zN3 ?_ | refine zN4 ?_ | refine zAp (fun _ => ?_)) | refine zS ?_ | refine zAl (fun _ => ?_) | refine zBx (fun _ => ?_) | refine zPt ?_ | refine zPf ?_ | refine zE ?_ | refine zEA ?_ | refine zNot ?_ | refine zBd ?_ | refine zBs ?_ | refine zFn ?_ | refine zK1 ?_ | refine zK2 ?_ | refine ac_seq ?_ | refine ac_block ?_ | refine ac_region ?_ | refine ac_skip ?_ | refine ac_exit ?_ | refine ac_ret ?_ | refine zT ?_ | refine zF ?_)
            first | refine zR ?_ | refine zQ ?_
            rw [hno (by rw [← hy]; simp only [okB, e1, c1]; first | rfl | simp)]; rfl
          · skip
            cases e2 : decide (ta = ⟨#[]⟩)
            · cases c2 : (has.data.toList.any fun b => decide ((116 : UInt8) = b))
              · skip
                repeat (first | refine zNil ?_ | refine zOp ?_ | refine zOpn ?_ | refine zNo ?_ | refine zNon ?_ | refine zUn ?_ | refine zUnn ?_ | refine zYes ?_ | refine zYesn ?_ | (refine zkL ?_; first | refine zL1 ?_ | refine zL2 ?_ | refine zL3 ?_ | refine zLp ?_) | refine zM ?_ | (refine zkF ?_; first | refine zF1 ?_ | refine zF2 ?_ | refine zF3 ?_) | refine zA ?_ | (refine zkB ?_; first | refine zC5 ?_ | refine zC6 ?_ | refine zC1 ?_ | refine zC2 ?_ | refine zC3 ?_ | refine zC4 ?_ | refine zS5 ?_ | refine zS6 ?_ | refine zS1 ?_ | refine zS2 ?_ | refine zS3 ?_ | refine zS4 ?_ | refine zInc ?_ | refine zQ1 ?_ | refine zQ2 ?_ | refine zQ3 ?_ | refine zQ4 ?_ | refine zQ5 ?_ | refine zQ6 ?_) | (refine zkI ?_; first | refine zN1 (fun hlen => ?_) | refine zN2 (fun hlen => ?_) | refine zN3 ?_ | refine zN4 ?_ | refine zAp (fun _ => ?_)) | refine zS ?_ | refine zAl (fun _ => ?_) | refine zBx (fun _ => ?_) | refine zPt ?_ | refine zPf ?_ | refine zE ?_ | refine zEA ?_ | refine zNot ?_ | refine zBd ?_ | refine zBs ?_ | refine zFn ?_ | refine zK1 ?_ | refine zK2 ?_ | refine ac_seq ?_ | refine ac_block ?_ | refine ac_region ?_ | refine ac_skip ?_ | refine ac_exit ?_ | refine ac_ret ?_ | refine zT ?_ | refine zF ?_)
                first | refine zR ?_ | refine zQ ?_
                rw [hno (by rw [← hy]; simp only [okB, e1, c1, e2, c2]; first | rfl | simp)]; rfl
              · skip
                cases em : decide (most < (la.length : Int))
                · repeat (first | refine zNil ?_ | refine zOp ?_ | refine zOpn ?_ | refine zNo ?_ | refine zNon ?_ | refine zUn ?_ | refine zUnn ?_ | refine zYes ?_ | refine zYesn ?_ | (refine zkL ?_; first | refine zL1 ?_ | refine zL2 ?_ | refine zL3 ?_ | refine zLp ?_) | refine zM ?_ | (refine zkF ?_; first | refine zF1 ?_ | refine zF2 ?_ | refine zF3 ?_) | refine zA ?_ | (refine zkB ?_; first | refine zC5 ?_ | refine zC6 ?_ | refine zC1 ?_ | refine zC2 ?_ | refine zC3 ?_ | refine zC4 ?_ | refine zS5 ?_ | refine zS6 ?_ | refine zS1 ?_ | refine zS2 ?_ | refine zS3 ?_ | refine zS4 ?_ | refine zInc ?_ | refine zQ1 ?_ | refine zQ2 ?_ | refine zQ3 ?_ | refine zQ4 ?_ | refine zQ5 ?_ | refine zQ6 ?_) | (refine zkI ?_; first | refine zN1 (fun hlen => ?_) | refine zN2 (fun hlen => ?_) | refine zN3 ?_ | refine zN4 ?_ | refine zAp (fun _ => ?_)) | refine zS ?_ | refine zAl (fun _ => ?_) | refine zBx (fun _ => ?_) | refine zPt ?_ | refine zPf ?_ | refine zE ?_ | refine zEA ?_ | refine zNot ?_ | refine zBd ?_ | refine zBs ?_ | refine zFn ?_ | refine zK1 ?_ | refine zK2 ?_ | refine ac_seq ?_ | refine ac_block ?_ | refine ac_region ?_ | refine ac_skip ?_ | refine ac_exit ?_ | refine ac_ret ?_ | refine zT ?_ | refine zF ?_)
                  exact ⟨j + 1, ⟨hj', by rw [hsa, hjf]; simp only [formP]; rw [← hy]; simp only [okB, e1, c1, e2, c2, em]; first | rfl | simp⟩, by omega, x_wkd 1 ⟨rfl, trivial⟩ rfl (by repeat (first | exact ag_refl | refine ag_upd rfl ?_ | refine ag_at rfl rfl ?_))⟩
                · skip
                  repeat (first | refine zNil ?_ | refine zOp ?_ | refine zOpn ?_ | refine zNo ?_ | refine zNon ?_ | refine zUn ?_ | refine zUnn ?_ | refine zYes ?_ | refine zYesn ?_ | (refine zkL ?_; first | refine zL1 ?_ | refine zL2 ?_ | refine zL3 ?_ | refine zLp ?_) | refine zM ?_ | (refine zkF ?_; first | refine zF1 ?_ | refine zF2 ?_ | refine zF3 ?_) | refine zA ?_ | (refine zkB ?_; first | refine zC5 ?_ | refine zC6 ?_ | refine zC1 ?_ | refine zC2 ?_ | refine zC3 ?_ | refine zC4 ?_ | refine zS5 ?_ | refine zS6 ?_ | refine zS1 ?_ | refine zS2 ?_ | refine zS3 ?_ | refine zS4 ?_ | refine zInc ?_ | refine zQ1 ?_ | refine zQ2 ?_ | refine zQ3 ?_ | refine zQ4 ?_ | refine zQ5 ?_ | refine zQ6 ?_) | (refine zkI ?_; first | refine zN1 (fun hlen => ?_) | refine zN2 (fun hlen => ?_) | refine zN3 ?_ | refine zN4 ?_ | refine zAp (fun _ => ?_)) | refine zS ?_ | refine zAl (fun _ => ?_) | refine zBx (fun _ => ?_) | refine zPt ?_ | refine zPf ?_ | refine zE ?_ | refine zEA ?_ | refine zNot ?_ | refine zBd ?_ | refine zBs ?_ | refine zFn ?_ | refine zK1 ?_ | refine zK2 ?_ | refine ac_seq ?_ | refine ac_block ?_ | refine ac_region ?_ | refine ac_skip ?_ | refine ac_exit ?_ | refine ac_ret ?_ | refine zT ?_ | refine zF ?_)
                  first | refine zR ?_ | refine zQ ?_
                  rw [hno (by rw [← hy]; simp only [okB, e1, c1, e2, c2, em]; first | rfl | simp)]; rfl
            · skip
              cases em : decide (most < (la.length : Int))
              · repeat (first | refine zNil ?_ | refine zOp ?_ | refine zOpn ?_ | refine zNo ?_ | refine zNon ?_ | refine zUn ?_ | refine zUnn ?_ | refine zYes ?_ | refine zYesn ?_ | (refine zkL ?_; first | refine zL1 ?_ | refine zL2 ?_ | refine zL3 ?_ | refine zLp ?_) | refine zM ?_ | (refine zkF ?_; first | refine zF1 ?_ | refine zF2 ?_ | refine zF3 ?_) | refine zA ?_ | (refine zkB ?_; first | refine zC5 ?_ | refine zC6 ?_ | refine zC1 ?_ | refine zC2 ?_ | refine zC3 ?_ | refine zC4 ?_ | refine zS5 ?_ | refine zS6 ?_ | refine zS1 ?_ | refine zS2 ?_ | refine zS3 ?_ | refine zS4 ?_ | refine zInc ?_ | refine zQ1 ?_ | refine zQ2 ?_ | refine zQ3 ?_ | refine zQ4 ?_ | refine zQ5 ?_ | refine zQ6 ?_) | (refine zkI ?_; first | refine zN1 (fun hlen => ?_) | refine zN2 (fun hlen => ?_) | refine zN3 ?_ | refine zN4 ?_ | refine zAp (fun _ => ?_)) | refine zS ?_ | refine zAl (fun _ => ?_) | refine zBx (fun _ => ?_) | refine zPt ?_ | refine zPf ?_ | refine zE ?_ | refine zEA ?_ | refine zNot ?_ | refine zBd ?_ | refine zBs ?_ | refine zFn ?_ | refine zK1 ?_ | refine zK2 ?_ | refine ac_seq ?_ | refine ac_block ?_ | refine ac_region ?_ | refine ac_skip ?_ | refine ac_exit ?_ | refine ac_ret ?_ | refine zT ?_ | refine zF ?_)
                exact ⟨j + 1, ⟨hj', by rw [hsa, hjf]; simp only [formP]; rw [← hy]; simp only [okB, e1, c1, e2, em]; first | rfl | simp⟩, by omega, x_wkd 1 ⟨rfl, trivial⟩ rfl (by repeat (first | exact ag_refl | refine ag_upd rfl ?_ | refine ag_at rfl rfl ?_))⟩
              · skip
                repeat (first | refine zNil ?_ | refine zOp ?_ | refine zOpn ?_ | refine zNo ?_ | refine zNon ?_ | refine zUn ?_ | refine zUnn ?_ | refine zYes ?_ | refine zYesn ?_ | (refine zkL ?_; first | refine zL1 ?_ | refine zL2 ?_ | refine zL3 ?_ | refine zLp ?_) | refine zM ?_ | (refine zkF ?_; first | refine zF1 ?_ | refine zF2 ?_ | refine zF3 ?_) | refine zA ?_ | (refine zkB ?_; first | refine zC5 ?_ | refine zC6 ?_ | refine zC1 ?_ | refine zC2 ?_ | refine zC3 ?_ | refine zC4 ?_ | refine zS5 ?_ | refine zS6 ?_ | refine zS1 ?_ | refine zS2 ?_ | refine zS3 ?_ | refine zS4 ?_ | refine zInc ?_ | refine zQ1 ?_ | refine zQ2 ?_ | refine zQ3 ?_ | refine zQ4 ?_ | refine zQ5 ?_ | refine zQ6 ?_) | (refine zkI ?_; first | refine zN1 (fun hlen => ?_) | refine zN2 (fun hlen => ?_) | refine zN3 ?_ | refine zN4 ?_ | refine zAp (fun _ => ?_)) | refine zS ?_ | refine zAl (fun _ => ?_) | refine zBx (fun _ => ?_) | refine zPt ?_ | refine zPf ?_ | refine zE ?_ | refine zEA ?_ | refine zNot ?_ | refine zBd ?_ | refine zBs ?_ | refine zFn ?_ | refine zK1 ?_ | refine zK2 ?_ | refine ac_seq ?_ | refine ac_block ?_ | refine ac_region ?_ | refine ac_skip ?_ | refine ac_exit ?_ | refine ac_ret ?_ | refine zT ?_ | refine zF ?_)
                first | refine zR ?_ | refine zQ ?_
                rw [hno (by rw [← hy]; simp only [okB, e1, c1, e2, em]; first | rfl | simp)]; rfl
        · skip
          cases e2 : decide (ta = ⟨#[]⟩)
          · cases c2 : (has.data.toList.any fun b => decide ((116 : UInt8) = b))
            · skip
              repeat (first | refine zNil ?_ | refine zOp ?_ | refine zOpn ?_ | refine zNo ?_ | refine zNon ?_ | refine zUn ?_ | refine zUnn ?_ | refine zYes ?_ | refine zYesn ?_ | (refine zkL ?_; first | refine zL1 ?_ | refine zL2 ?_ | refine zL3 ?_ | refine zLp ?_) | refine zM ?_ | (refine zkF ?_; first | refine zF1 ?_ | refine zF2 ?_ | refine zF3 ?_) | refine zA ?_ | (refine zkB ?_; first | refine zC5 ?_ | refine zC6 ?_ | refine zC1 ?_ | refine zC2 ?_ | refine zC3 ?_ | refine zC4 ?_ | refine zS5 ?_ | refine zS6 ?_ | refine zS1 ?_ | refine zS2 ?_ | refine zS3 ?_ | refine zS4 ?_ | refine zInc ?_ | refine zQ1 ?_ | refine zQ2 ?_ | refine zQ3 ?_ | refine zQ4 ?_ | refine zQ5 ?_ | refine zQ6 ?_) | (refine zkI ?_; first | refine zN1 (fun hlen => ?_) | refine zN2 (fun hlen => ?_) | refine zN3 ?_ | refine zN4 ?_ | refine zAp (fun _ => ?_)) | refine zS ?_ | refine zAl (fun _ => ?_) | refine zBx (fun _ => ?_) | refine zPt ?_ | refine zPf ?_ | refine zE ?_ | refine zEA ?_ | refine zNot ?_ | refine zBd ?_ | refine zBs ?_ | refine zFn ?_ | refine zK1 ?_ | refine zK2 ?_ | refine ac_seq ?_ | refine ac_block ?_ | refine ac_region ?_ | refine ac_skip ?_ | refine ac_exit ?_ | refine ac_ret ?_ | refine zT ?_ | refine zF ?_)
              first | refine zR ?_ | refine zQ ?_
              rw [hno (by rw [← hy]; simp only [okB, e1, e2, c2]; first | rfl | simp)]; rfl
            · skip
              cases em : decide (most < (la.length : Int))
              · repeat (first | refine zNil ?_ | refine zOp ?_ | refine zOpn ?_ | refine zNo ?_ | refine zNon ?_ | refine zUn ?_ | refine zUnn ?_ | refine zYes ?_ | refine zYesn ?_ | (refine zkL ?_; first | refine zL1 ?_ | refine zL2 ?_ | refine zL3 ?_ | refine zLp ?_) | refine zM ?_ | (refine zkF ?_; first | refine zF1 ?_ | refine zF2 ?_ | refine zF3 ?_) | refine zA ?_ | (refine zkB ?_; first | refine zC5 ?_ | refine zC6 ?_ | refine zC1 ?_ | refine zC2 ?_ | refine zC3 ?_ | refine zC4 ?_ | refine zS5 ?_ | refine zS6 ?_ | refine zS1 ?_ | refine zS2 ?_ | refine zS3 ?_ | refine zS4 ?_ | refine zInc ?_ | refine zQ1 ?_ | refine zQ2 ?_ | refine zQ3 ?_ | refine zQ4 ?_ | refine zQ5 ?_ | refine zQ6 ?_) | (refine zkI ?_; first | refine zN1 (fun hlen => ?_) | refine zN2 (fun hlen => ?_) | refine zN3 ?_ | refine zN4 ?_ | refine zAp (fun _ => ?_)) | refine zS ?_ | refine zAl (fun _ => ?_) | refine zBx (fun _ => ?_) | refine zPt ?_ | refine zPf ?_ | refine zE ?_ | refine zEA ?_ | refine zNot ?_ | refine zBd ?_ | refine zBs ?_ | refine zFn ?_ | refine zK1 ?_ | refine zK2 ?_ | refine ac_seq ?_ | refine ac_block ?_ | refine ac_region ?_ | refine ac_skip ?_ | refine ac_exit ?_ | refine ac_ret ?_ | refine zT ?_ | refine zF ?_)
                exact ⟨j + 1, ⟨hj', by rw [hsa, hjf]; simp only [formP]; rw [← hy]; simp only [okB, e1, e2, c2, em]; first | rfl | simp⟩, by omega, x_wkd 1 ⟨rfl, trivial⟩ rfl (by repeat (first | exact ag_refl | refine ag_upd rfl ?_ | refine ag_at rfl rfl ?_))⟩
              · skip
                repeat (first | refine zNil ?_ | refine zOp ?_ | refine zOpn ?_ | refine zNo ?_ | refine zNon ?_ | refine zUn ?_ | refine zUnn ?_ | refine zYes ?_ | refine zYesn ?_ | (refine zkL ?_; first | refine zL1 ?_ | refine zL2 ?_ | refine zL3 ?_ | refine zLp ?_) | refine zM ?_ | (refine zkF ?_; first | refine zF1 ?_ | refine zF2 ?_ | refine zF3 ?_) | refine zA ?_ | (refine zkB ?_; first | refine zC5 ?_ | refine zC6 ?_ | refine zC1 ?_ | refine zC2 ?_ | refine zC3 ?_ | refine zC4 ?_ | refine zS5 ?_ | refine zS6 ?_ | refine zS1 ?_ | refine zS2 ?_ | refine zS3 ?_ | refine zS4 ?_ | refine zInc ?_ | refine zQ1 ?_ | refine zQ2 ?_ | refine zQ3 ?_ | refine zQ4 ?_ | refine zQ5 ?_ | refine zQ6 ?_) | (refine zkI ?_; first | refine zN1 (fun hlen => ?_) | refine zN2 (fun hlen => ?_) | refine zN3 ?_ | refine zN4 ?_ | refine zAp (fun _ => ?_)) | refine zS ?_ | refine zAl (fun _ => ?_) | refine zBx (fun _ => ?_) | refine zPt ?_ | refine zPf ?_ | refine zE ?_ | refine zEA ?_ | refine zNot ?_ | refine zBd ?_ | refine zBs ?_ | refine zFn ?_ | refine zK1 ?_ | refine zK2 ?_ | refine ac_seq ?_ | refine ac_block ?_ | refine ac_region ?_ | refine ac_skip ?_ | refine ac_exit ?_ | refine ac_ret ?_ | refine zT ?_ | refine zF ?_)
                first | refine zR ?_ | refine zQ ?_
                rw [hno (by rw [← hy]; simp only [okB, e1, e2, c2, em]; first | rfl | simp)]; rfl
          · skip
            cases em : decide (most < (la.length : Int))
            · repeat (first | refine zNil ?_ | refine zOp ?_ | refine zOpn ?_ | refine zNo ?_ | refine zNon ?_ | refine zUn ?_ | refine zUnn ?_ | refine zYes ?_ | refine zYesn ?_ | (refine zkL ?_; first | refine zL1 ?_ | refine zL2 ?_ | refine zL3 ?_ | refine zLp ?_) | refine zM ?_ | (refine zkF ?_; first | refine zF1 ?_ | refine zF2 ?_ | refine zF3 ?_) | refine zA ?_ | (refine zkB ?_; first | refine zC5 ?_ | refine zC6 ?_ | refine zC1 ?_ | refine zC2 ?_ | refine zC3 ?_ | refine zC4 ?_ | refine zS5 ?_ | refine zS6 ?_ | refine zS1 ?_ | refine zS2 ?_ | refine zS3 ?_ | refine zS4 ?_ | refine zInc ?_ | refine zQ1 ?_ | refine zQ2 ?_ | refine zQ3 ?_ | refine zQ4 ?_ | refine zQ5 ?_ | refine zQ6 ?_) | (refine zkI ?_; first | refine zN1 (fun hlen => ?_) | refine zN2 (fun hlen => ?_) | refine zN3 ?_ | refine zN4 ?_ | refine zAp (fun _ => ?_)) | refine zS ?_ | refine zAl (fun _ => ?_) | refine zBx (fun _ => ?_) | refine zPt ?_ | refine zPf ?_ | refine zE ?_ | refine zEA ?_ | refine zNot ?_ | refine zBd ?_ | refine zBs ?_ | refine zFn ?_ | refine zK1 ?_ | refine zK2 ?_ | refine ac_seq ?_ | refine ac_block ?_ | refine ac_region ?_ | refine ac_skip ?_ | refine ac_exit ?_ | refine ac_ret ?_ | refine zT ?_ | refine zF ?_)
              exact ⟨j + 1, ⟨hj', by rw [hsa, hjf]; simp only [formP]; rw [← hy]; simp only [okB, e1, e2, em]; first | rfl | simp⟩, by omega, x_wkd 1 ⟨rfl, trivial⟩ rfl (by repeat (first | exact ag_refl | refine ag_upd rfl ?_ | refine ag_at rfl rfl ?_))⟩
            · skip
              repeat (first | refine zNil ?_ | refine zOp ?_ | refine zOpn ?_ | refine zNo ?_ | refine zNon ?_ | refine zUn ?_ | refine zUnn ?_ | refine zYes ?_ | refine zYesn ?_ | (refine zkL ?_; first | refine zL1 ?_ | refine zL2 ?_ | refine zL3 ?_ | refine zLp ?_) | refine zM ?_ | (refine zkF ?_; first | refine zF1 ?_ | refine zF2 ?_ | refine zF3 ?_) | refine zA ?_ | (refine zkB ?_; first | refine zC5 ?_ | refine zC6 ?_ | refine zC1 ?_ | refine zC2 ?_ | refine zC3 ?_ | refine zC4 ?_ | refine zS5 ?_ | refine zS6 ?_ | refine zS1 ?_ | refine zS2 ?_ | refine zS3 ?_ | refine zS4 ?_ | refine zInc ?_ | refine zQ1 ?_ | refine zQ2 ?_ | refine zQ3 ?_ | refine zQ4 ?_ | refine zQ5 ?_ | refine zQ6 ?_) | (refine zkI ?_; first | refine zN1 (fun hlen => ?_) | refine zN2 (fun hlen => ?_) | refine zN3 ?_ | refine zN4 ?_ | refine zAp (fun _ => ?_)) | refine zS ?_ | refine zAl (fun _ => ?_) | refine zBx (fun _ => ?_) | refine zPt ?_ | refine zPf ?_ | refine zE ?_ | refine zEA ?_ | refine zNot ?_ | refine zBd ?_ | refine zBs ?_ | refine zFn ?_ | refine zK1 ?_ | refine zK2 ?_ | refine ac_seq ?_ | refine ac_block ?_ | refine ac_region ?_ | refine ac_skip ?_ | refine ac_exit ?_ | refine ac_ret ?_ | refine zT ?_ | refine zF ?_)
              first | refine zR ?_ | refine zQ ?_
              rw [hno (by rw [← hy]; simp only [okB, e1, e2, em]; first | rfl | simp)]; rfl
      · have hj' : j = all.length := by have : ¬ j < all.length := by simpa using h
                                        omega
        subst hj'
        rw [List.take_length] at hjf
        repeat (first | refine zNil ?_ | refine zOp ?_ | refine zOpn ?_ | refine zNo ?_ | refine zNon ?_ | refine zUn ?_ | refine zUnn ?_ | refine zYes ?_ | refine zYesn ?_ | (refine zkL ?_; first | refine zL1 ?_ | refine zL2 ?_ | refine zL3 ?_ | refine zLp ?_) | refine zM ?_ | (refine zkF ?_; first | refine zF1 ?_ | refine zF2 ?_ | refine zF3 ?_) | refine zA ?_ | (refine zkB ?_; first | refine zC5 ?_ | refine zC6 ?_ | refine zC1 ?_ | refine zC2 ?_ | refine zC3 ?_ | refine zC4 ?_ | refine zS5 ?_ | refine zS6 ?_ | refine zS1 ?_ | refine zS2 ?_ | refine zS3 ?_ | refine zS4 ?_ | refine zInc ?_ | refine zQ1 ?_ | refine zQ2 ?_ | refine zQ3 ?_ | refine zQ4 ?_ | refine zQ5 ?_ | refine zQ6 ?_) | (refine zkI ?_; first | refine zN1 (fun hlen => ?_) | refine zN2 (fun hlen => ?_) | refine zN3 ?_ | refine zN4 ?_ | refine zAp (fun _ => ?_)) | refine zS ?_ | refine zAl (fun _ => ?_) | refine zBx (fun _ => ?_) | refine zPt ?_ | refine zPf ?_ | refine zE ?_ | refine zEA ?_ | refine zNot ?_ | refine zBd ?_ | refine zBs ?_ | refine zFn ?_ | refine zK1 ?_ | refine zK2 ?_ | refine ac_seq ?_ | refine ac_block ?_ | refine ac_region ?_ | refine ac_skip ?_ | refine ac_exit ?_ | refine ac_ret ?_ | refine zT ?_ | refine zF ?_)
        first | refine zR ?_ | refine zQ ?_
        rw [V.check, hbig, ← hdone.2 formP, hjf]; rfl
end Go.Proofs.Ythgackidonocpaa
namespace Go.Proofs.Ythgackidonocpaa
open Go.RowKit
/-- the bytes of a value and the error -/
def V.out (v : V) : List UInt8 := if v.check = 0 then v.bytes else []
def Outs2 (b : List UInt8) (e : Int) (t : T) : Prop := t = .tup [bytRow b, .lit (.int .i64 e)]
set_option maxRecDepth 100000 in
set_option maxHeartbeats 2000000 in
theorem writtenV_af (v : V) (hok : v.ok) (hb : v.bytes.length ≤ 1099511627776) : AF Try.prog 73 [v.t, .fn (.func 17) [], .fn (.func 74) []] (Outs2 v.out v.check) := by
  have hc := check_af v
  have ha := ag_nil (Nat.succ_pos 0) (appendValue_ag v hok (.slice none 0 0) [] (by simpa using hb))
  obtain ⟨k, n, t, l⟩ := v
  refine af_enter tok Try.func73 Try.ntmps73 Try.results73 rfl (by kernel_rfl) rfl rfl fun F hX => ?_
  repeat (first | refine zNil ?_ | refine zOp ?_ | refine zOpn ?_ | refine zNo ?_ | refine zNon ?_ | refine zUn ?_ | refine zUnn ?_ | refine zYes ?_ | refine zYesn ?_ | (refine zkL ?_; first | refine zL1 ?_ | refine zL2 ?_ | refine zL3 ?_ | refine zLp ?_) | refine zM ?_ | (refine zkF ?_; first | refine zF1 ?_ | refine zF2 ?_ | refine zF3 ?_) | refine zA ?_ | (refine zkB ?_; first | refine zC5 ?_ | refine zC6 ?_ | refine zC1 ?_ | refine zC2 ?_ | refine zC3 ?_ | refine zC4 ?_ | refine zS5 ?_ | refine zS6 ?_ | refine zS1 ?_ | refine zS2 ?_ | refine zS3 ?_ | refine zS4 ?_ | refine zInc ?_ | refine zQ1 ?_ | refine zQ2 ?_ | refine zQ3 ?_ | refine zQ4 ?_ | refine zQ5 ?_ | refine zQ6 ?_) | (refine zkI ?_; first | refine zN1 (fun hlen => ?_) | refine zN2 (fun hlen => ?_) | refine zN3 ?_ | refine zN4 ?_ | refine zAp (fun _ => ?_)) | refine zS ?_ | refine zAl (fun _ => ?_) | refine zBf ?_ | refine zPt ?_ | refine zPf ?_ | refine zE ?_ | refine zEA ?_ | refine zNot ?_ | refine zBd ?_ | refine zBs ?_ | refine zFn ?_ | refine zK1 ?_ | refine zK2 ?_ | refine ac_seq ?_ | refine ac_block ?_ | refine ac_region ?_ | refine ac_skip ?_ | refine ac_exit ?_ | refine ac_ret ?_ | refine zT ?_ | refine zF ?_)
  refine zCallc (hc) ?_
  rintro _ rfl
  cases d1 : decide ((V.mk k n t l).check = 0)
  · have hno : ¬ (V.mk k n t l).check = 0 := of_decide_eq_false d1
    repeat (first | refine zNil ?_ | refine zOp ?_ | refine zOpn ?_ | refine zNo ?_ | refine zNon ?_ | refine zUn ?_ | refine zUnn ?_ | refine zYes ?_ | refine zYesn ?_ | (refine zkL ?_; first | refine zL1 ?_ | refine zL2 ?_ | refine zL3 ?_ | refine zLp ?_) | refine zM ?_ | (refine zkF ?_; first | refine zF1 ?_ | refine zF2 ?_ | refine zF3 ?_) | refine zA ?_ | (refine zkB ?_; first | refine zC5 ?_ | refine zC6 ?_ | refine zC1 ?_ | refine zC2 ?_ | refine zC3 ?_ | refine zC4 ?_ | refine zS5 ?_ | refine zS6 ?_ | refine zS1 ?_ | refine zS2 ?_ | refine zS3 ?_ | refine zS4 ?_ | refine zInc ?_ | refine zQ1 ?_ | refine zQ2 ?_ | refine zQ3 ?_ | refine zQ4 ?_ | refine zQ5 ?_ | refine zQ6 ?_) | (refine zkI ?_; first | refine zN1 (fun hlen => ?_) | refine zN2 (fun hlen => ?_) | refine zN3 ?_ | refine zN4 ?_ | refine zAp (fun _ => ?_)) | refine zS ?_ | refine zAl (fun _ => ?_) | refine zBx (fun _ => ?_) | refine zPt ?_ | refine zPf ?_ | refine zE ?_ | refine zEA ?_ | refine zNot ?_ | refine zBd ?_ | refine zBs ?_ | refine zFn ?_ | refine zK1 ?_ | refine zK2 ?_ | refine ac_seq ?_ | refine ac_block ?_ | refine ac_region ?_ | refine ac_skip ?_ | refine ac_exit ?_ | refine ac_ret ?_ | refine zT ?_ | refine zF ?_)
    first | refine zR (ts := [bytRow [], .lit (.int .i64 (V.mk k n t l).check)]) ?_ | refine zQ (ts := [bytRow [], .lit (.int .i64 (V.mk k n t l).check)]) ?_
    rw [Outs2, V.out, if_neg hno]; rfl
  · have hyes : (V.mk k n t l).check = 0 := of_decide_eq_true d1
    repeat (first | refine zNil ?_ | refine zOp ?_ | refine zOpn ?_ | refine zNo ?_ | refine zNon ?_ | refine zUn ?_ | refine zUnn ?_ | refine zYes ?_ | refine zYesn ?_ | (refine zkL ?_; first | refine zL1 ?_ | refine zL2 ?_ | refine zL3 ?_ | refine zLp ?_) | refine zM ?_ | (refine zkF ?_; first | refine zF1 ?_ | refine zF2 ?_ | refine zF3 ?_) | refine zA ?_ | (refine zkB ?_; first | refine zC5 ?_ | refine zC6 ?_ | refine zC1 ?_ | refine zC2 ?_ | refine zC3 ?_ | refine zC4 ?_ | refine zS5 ?_ | refine zS6 ?_ | refine zS1 ?_ | refine zS2 ?_ | refine zS3 ?_ | refine zS4 ?_ | refine zInc ?_ | refine zQ1 ?_ | refine zQ2 ?_ | refine zQ3 ?_ | refine zQ4 ?_ | refine zQ5 ?_ | refine zQ6 ?_) | (refine zkI ?_; first | refine zN1 (fun hlen => ?_) | refine zN2 (fun hlen => ?_) | refine zN3 ?_ | refine zN4 ?_ | refine zAp (fun _ => ?_)) | refine zS ?_ | refine zAl (fun _ => ?_) | refine zBx (fun _ => ?_) | refine zPt ?_ | refine zPf ?_ | refine zE ?_ | refine zEA ?_ | refine zNot ?_ | refine zBd ?_ | refine zBs ?_ | refine zFn ?_ | refine zK1 ?_ | refine zK2 ?_ | refine ac_seq ?_ | refine ac_block ?_ | refine ac_region ?_ | refine ac_skip ?_ | refine ac_exit ?_ | refine ac_ret ?_ | refine zT ?_ | refine zF ?_)
    refine zCallGc [] ha ?_
    rintro _ _ ⟨v', rfl, rfl⟩
    refine ⟨.own 0 v', _, re_own, rfl, rfl, ?_⟩
    repeat (first | refine zNil ?_ | refine zOp ?_ | refine zOpn ?_ | refine zNo ?_ | refine zNon ?_ | refine zUn ?_ | refine zUnn ?_ | refine zYes ?_ | refine zYesn ?_ | (refine zkL ?_; first | refine zL1 ?_ | refine zL2 ?_ | refine zL3 ?_ | refine zLp ?_) | refine zM ?_ | (refine zkF ?_; first | refine zF1 ?_ | refine zF2 ?_ | refine zF3 ?_) | refine zA ?_ | (refine zkB ?_; first | refine zC5 ?_ | refine zC6 ?_ | refine zC1 ?_ | refine zC2 ?_ | refine zC3 ?_ | refine zC4 ?_ | refine zS5 ?_ | refine zS6 ?_ | refine zS1 ?_ | refine zS2 ?_ | refine zS3 ?_ | refine zS4 ?_ | refine zInc ?_ | refine zQ1 ?_ | refine zQ2 ?_ | refine zQ3 ?_ | refine zQ4 ?_ | refine zQ5 ?_ | refine zQ6 ?_) | (refine zkI ?_; first | refine zN1 (fun hlen => ?_) | refine zN2 (fun hlen => ?_) | refine zN3 ?_ | refine zN4 ?_ | refine zAp (fun _ => ?_)) | refine zS ?_ | refine zAl (fun _ => ?_) | refine zBx (fun _ => ?_) | refine zPt ?_ | refine zPf ?_ | refine zE ?_ | refine zEA ?_ | refine zNot ?_ | refine zBd ?_ | refine zBs ?_ | refine zFn ?_ | refine zK1 ?_ | refine zK2 ?_ | refine ac_seq ?_ | refine ac_block ?_ | refine ac_region ?_ | refine ac_skip ?_ | refine ac_exit ?_ | refine ac_ret ?_ | refine zT ?_ | refine zF ?_)
    first | refine zR ?_ | refine zQ ?_
    rw [Outs2, V.out, if_pos hyes, hyes]; rfl
set_option maxRecDepth 100000 in
set_option maxHeartbeats 2000000 in
theorem bytesV_af (v : V) (hok : v.ok) (hb : v.bytes.length ≤ 1099511627776) : AF Try.prog 15 [v.t] (Outs2 v.out v.check) := by
  have hc := writtenV_af v hok hb
  obtain ⟨k, n, t, l⟩ := v
  refine af_enter tok Try.func15 Try.ntmps15 Try.results15 rfl (by kernel_rfl) rfl rfl fun F hX => ?_
  repeat (first | refine zNil ?_ | refine zOp ?_ | refine zOpn ?_ | refine zNo ?_ | refine zNon ?_ | refine zUn ?_ | refine zUnn ?_ | refine zYes ?_ | refine zYesn ?_ | (refine zkL ?_; first | refine zL1 ?_ | refine zL2 ?_ | refine zL3 ?_ | refine zLp ?_) | refine zM ?_ | (refine zkF ?_; first | refine zF1 ?_ | refine zF2 ?_ | refine zF3 ?_) | refine zA ?_ | (refine zkB ?_; first | refine zC5 ?_ | refine zC6 ?_ | refine zC1 ?_ | refine zC2 ?_ | refine zC3 ?_ | refine zC4 ?_ | refine zS5 ?_ | refine zS6 ?_ | refine zS1 ?_ | refine zS2 ?_ | refine zS3 ?_ | refine zS4 ?_ | refine zInc ?_ | refine zQ1 ?_ | refine zQ2 ?_ | refine zQ3 ?_ | refine zQ4 ?_ | refine zQ5 ?_ | refine zQ6 ?_) | (refine zkI ?_; first | refine zN1 (fun hlen => ?_) | refine zN2 (fun hlen => ?_) | refine zN3 ?_ | refine zN4 ?_ | refine zAp (fun _ => ?_)) | refine zS ?_ | refine zAl (fun _ => ?_) | refine zBf ?_ | refine zPt ?_ | refine zPf ?_ | refine zE ?_ | refine zEA ?_ | refine zNot ?_ | refine zBd ?_ | refine zBs ?_ | refine zFn ?_ | refine zK1 ?_ | refine zK2 ?_ | refine ac_seq ?_ | refine ac_block ?_ | refine ac_region ?_ | refine ac_skip ?_ | refine ac_exit ?_ | refine ac_ret ?_ | refine zT ?_ | refine zF ?_)
  refine zCall (hc) ?_
  rintro _ rfl
  repeat (first | refine zNil ?_ | refine zOp ?_ | refine zOpn ?_ | refine zNo ?_ | refine zNon ?_ | refine zUn ?_ | refine zUnn ?_ | refine zYes ?_ | refine zYesn ?_ | (refine zkL ?_; first | refine zL1 ?_ | refine zL2 ?_ | refine zL3 ?_ | refine zLp ?_) | refine zM ?_ | (refine zkF ?_; first | refine zF1 ?_ | refine zF2 ?_ | refine zF3 ?_) | refine zA ?_ | (refine zkB ?_; first | refine zC5 ?_ | refine zC6 ?_ | refine zC1 ?_ | refine zC2 ?_ | refine zC3 ?_ | refine zC4 ?_ | refine zS5 ?_ | refine zS6 ?_ | refine zS1 ?_ | refine zS2 ?_ | refine zS3 ?_ | refine zS4 ?_ | refine zInc ?_ | refine zQ1 ?_ | refine zQ2 ?_ | refine zQ3 ?_ | refine zQ4 ?_ | refine zQ5 ?_ | refine zQ6 ?_) | (refine zkI ?_; first | refine zN1 (fun hlen => ?_) | refine zN2 (fun hlen => ?_) | refine zN3 ?_ | refine zN4 ?_ | refine zAp (fun _ => ?_)) | refine zS ?_ | refine zAl (fun _ => ?_) | refine zBx (fun _ => ?_) | refine zPt ?_ | refine zPf ?_ | refine zE ?_ | refine zEA ?_ | refine zNot ?_ | refine zBd ?_ | refine zBs ?_ | refine zFn ?_ | refine zK1 ?_ | refine zK2 ?_ | refine ac_seq ?_ | refine ac_block ?_ | refine ac_region ?_ | refine ac_skip ?_ | refine ac_exit ?_ | refine ac_ret ?_ | refine zT ?_ | refine zF ?_)
  first | refine zR ?_ | refine zQ ?_
  rfl
set_option maxRecDepth 100000 in
set_option maxHeartbeats 2000000 in
theorem sameBytes_af (a b : List UInt8) : AF Try.prog 19 [bytRow a, bytRow b] (· = .lit (.bool (decide (bs a = bs b)))) := by
  refine af_enter tok Try.func19 Try.ntmps19 Try.results19 rfl (by kernel_rfl) rfl rfl fun F hX => ?_
  repeat (first | refine zNil ?_ | refine zOp ?_ | refine zOpn ?_ | refine zNo ?_ | refine zNon ?_ | refine zUn ?_ | refine zUnn ?_ | refine zYes ?_ | refine zYesn ?_ | (refine zkL ?_; first | refine zL1 ?_ | refine zL2 ?_ | refine zL3 ?_ | refine zLp ?_) | refine zM ?_ | (refine zkF ?_; first | refine zF1 ?_ | refine zF2 ?_ | refine zF3 ?_) | refine zA ?_ | (refine zkB ?_; first | refine zC5 ?_ | refine zC6 ?_ | refine zC1 ?_ | refine zC2 ?_ | refine zC3 ?_ | refine zC4 ?_ | refine zS5 ?_ | refine zS6 ?_ | refine zS1 ?_ | refine zS2 ?_ | refine zS3 ?_ | refine zS4 ?_ | refine zInc ?_ | refine zQ1 ?_ | refine zQ2 ?_ | refine zQ3 ?_ | refine zQ4 ?_ | refine zQ5 ?_ | refine zQ6 ?_) | (refine zkI ?_; first | refine zN1 (fun hlen => ?_) | refine zN2 (fun hlen => ?_) | refine zN3 ?_ | refine zN4 ?_ | refine zAp (fun _ => ?_)) | refine zS ?_ | refine zAl (fun _ => ?_) | refine zBx (fun _ => ?_) | refine zPt ?_ | refine zPf ?_ | refine zE ?_ | refine zEA ?_ | refine zNot ?_ | refine zBd ?_ | refine zBs ?_ | refine zFn ?_ | refine zK1 ?_ | refine zK2 ?_ | refine ac_seq ?_ | refine ac_block ?_ | refine ac_region ?_ | refine ac_skip ?_ | refine ac_exit ?_ | refine ac_ret ?_ | refine zT ?_ | refine zF ?_)
  refine zStr a rfl rfl ?_
  repeat (first | refine zNil ?_ | refine zOp ?_ | refine zOpn ?_ | refine zNo ?_ | refine zNon ?_ | refine zUn ?_ | refine zUnn ?_ | refine zYes ?_ | refine zYesn ?_ | (refine zkL ?_; first | refine zL1 ?_ | refine zL2 ?_ | refine zL3 ?_ | refine zLp ?_) | refine zM ?_ | (refine zkF ?_; first | refine zF1 ?_ | refine zF2 ?_ | refine zF3 ?_) | refine zA ?_ | (refine zkB ?_; first | refine zC5 ?_ | refine zC6 ?_ | refine zC1 ?_ | refine zC2 ?_ | refine zC3 ?_ | refine zC4 ?_ | refine zS5 ?_ | refine zS6 ?_ | refine zS1 ?_ | refine zS2 ?_ | refine zS3 ?_ | refine zS4 ?_ | refine zInc ?_ | refine zQ1 ?_ | refine zQ2 ?_ | refine zQ3 ?_ | refine zQ4 ?_ | refine zQ5 ?_ | refine zQ6 ?_) | (refine zkI ?_; first | refine zN1 (fun hlen => ?_) | refine zN2 (fun hlen => ?_) | refine zN3 ?_ | refine zN4 ?_ | refine zAp (fun _ => ?_)) | refine zS ?_ | refine zAl (fun _ => ?_) | refine zBx (fun _ => ?_) | refine zPt ?_ | refine zPf ?_ | refine zE ?_ | refine zEA ?_ | refine zNot ?_ | refine zBd ?_ | refine zBs ?_ | refine zFn ?_ | refine zK1 ?_ | refine zK2 ?_ | refine ac_seq ?_ | refine ac_block ?_ | refine ac_region ?_ | refine ac_skip ?_ | refine ac_exit ?_ | refine ac_ret ?_ | refine zT ?_ | refine zF ?_)
  refine zStr b rfl rfl ?_
  repeat (first | refine zNil ?_ | refine zOp ?_ | refine zOpn ?_ | refine zNo ?_ | refine zNon ?_ | refine zUn ?_ | refine zUnn ?_ | refine zYes ?_ | refine zYesn ?_ | (refine zkL ?_; first | refine zL1 ?_ | refine zL2 ?_ | refine zL3 ?_ | refine zLp ?_) | refine zM ?_ | (refine zkF ?_; first | refine zF1 ?_ | refine zF2 ?_ | refine zF3 ?_) | refine zA ?_ | (refine zkB ?_; first | refine zC5 ?_ | refine zC6 ?_ | refine zC1 ?_ | refine zC2 ?_ | refine zC3 ?_ | refine zC4 ?_ | refine zS5 ?_ | refine zS6 ?_ | refine zS1 ?_ | refine zS2 ?_ | refine zS3 ?_ | refine zS4 ?_ | refine zInc ?_ | refine zQ1 ?_ | refine zQ2 ?_ | refine zQ3 ?_ | refine zQ4 ?_ | refine zQ5 ?_ | refine zQ6 ?_) | (refine zkI ?_; first | refine zN1 (fun hlen => ?_) | refine zN2 (fun hlen => ?_) | refine zN3 ?_ | refine zN4 ?_ | refine zAp (fun _ => ?_)) | refine zS ?_ | refine zAl (fun _ => ?_) | refine zBx (fun _ => ?_) | refine zPt ?_ | refine zPf ?_ | refine zE ?_ | refine zEA ?_ | refine zNot ?_ | refine zBd ?_ | refine zBs ?_ | refine zFn ?_ | refine zK1 ?_ | refine zK2 ?_ | refine ac_seq ?_ | refine ac_block ?_ | refine ac_region ?_ | refine ac_skip ?_ | refine ac_exit ?_ | refine ac_ret ?_ | refine zT ?_ | refine zF ?_)
  first | refine zR ?_ | refine zQ ?_
  rfl
def oneV : V := .mk 2 1 ⟨#[]⟩ []
theorem oneV_ok : oneV.ok := by simp [oneV, V.ok, V.oks, inI]
theorem oneV_bytes : oneV.bytes = [2, 2, 0, 0] := by
  simp only [oneV, V.bytes, V.bytesAll]
  rw [uv_small (n := zz 1) (by decide), uv_small (n := (ByteArray.mk #[]).size) (by decide), uv_small (n := ([] : List V).length) (by decide)]
  decide
theorem oneV_check : oneV.check = 0 := by decide +kernel
set_option maxRecDepth 100000 in
set_option maxHeartbeats 2000000 in
theorem live_af : AF Try.prog 13 [] (· = .lit (.bool true)) := by
  have hc := bytesV_af oneV oneV_ok (by rw [oneV_bytes]; decide)
  rw [V.out, if_pos oneV_check, oneV_bytes, oneV_check] at hc
  refine af_enter tok Try.func13 Try.ntmps13 Try.results13 rfl (by kernel_rfl) rfl rfl fun F hX => ?_
  repeat (first | refine zNil ?_ | refine zOp ?_ | refine zOpn ?_ | refine zNo ?_ | refine zNon ?_ | refine zUn ?_ | refine zUnn ?_ | refine zYes ?_ | refine zYesn ?_ | (refine zkL ?_; first | refine zL1 ?_ | refine zL2 ?_ | refine zL3 ?_ | refine zLp ?_) | refine zM ?_ | (refine zkF ?_; first | refine zF1 ?_ | refine zF2 ?_ | refine zF3 ?_) | refine zA ?_ | (refine zkB ?_; first | refine zC5 ?_ | refine zC6 ?_ | refine zC1 ?_ | refine zC2 ?_ | refine zC3 ?_ | refine zC4 ?_ | refine zS5 ?_ | refine zS6 ?_ | refine zS1 ?_ | refine zS2 ?_ | refine zS3 ?_ | refine zS4 ?_ | refine zInc ?_ | refine zQ1 ?_ | refine zQ2 ?_ | refine zQ3 ?_ | refine zQ4 ?_ | refine zQ5 ?_ | refine zQ6 ?_) | (refine zkI ?_; first | refine zN1 (fun hlen => ?_) | refine zN2 (fun hlen => ?_) | refine zN3 ?_ | refine zN4 ?_ | refine zAp (fun _ => ?_)) | refine zS ?_ | refine zAl (fun _ => ?_) | refine zBx (fun _ => ?_) | refine zPt ?_ | refine zPf ?_ | refine zE ?_ | refine zEA ?_ | refine zNot ?_ | refine zBd ?_ | refine zBs ?_ | refine zFn ?_ | refine zK1 ?_ | refine zK2 ?_ | refine ac_seq ?_ | refine ac_block ?_ | refine ac_region ?_ | refine ac_skip ?_ | refine ac_exit ?_ | refine ac_ret ?_ | refine zT ?_ | refine zF ?_)
  refine zCall (hc) ?_
  rintro _ rfl
  repeat (first | refine zNil ?_ | refine zOp ?_ | refine zOpn ?_ | refine zNo ?_ | refine zNon ?_ | refine zUn ?_ | refine zUnn ?_ | refine zYes ?_ | refine zYesn ?_ | (refine zkL ?_; first | refine zL1 ?_ | refine zL2 ?_ | refine zL3 ?_ | refine zLp ?_) | refine zM ?_ | (refine zkF ?_; first | refine zF1 ?_ | refine zF2 ?_ | refine zF3 ?_) | refine zA ?_ | (refine zkB ?_; first | refine zC5 ?_ | refine zC6 ?_ | refine zC1 ?_ | refine zC2 ?_ | refine zC3 ?_ | refine zC4 ?_ | refine zS5 ?_ | refine zS6 ?_ | refine zS1 ?_ | refine zS2 ?_ | refine zS3 ?_ | refine zS4 ?_ | refine zInc ?_ | refine zQ1 ?_ | refine zQ2 ?_ | refine zQ3 ?_ | refine zQ4 ?_ | refine zQ5 ?_ | refine zQ6 ?_) | (refine zkI ?_; first | refine zN1 (fun hlen => ?_) | refine zN2 (fun hlen => ?_) | refine zN3 ?_ | refine zN4 ?_ | refine zAp (fun _ => ?_)) | refine zS ?_ | refine zAl (fun _ => ?_) | refine zBx (fun _ => ?_) | refine zPt ?_ | refine zPf ?_ | refine zE ?_ | refine zEA ?_ | refine zNot ?_ | refine zBd ?_ | refine zBs ?_ | refine zFn ?_ | refine zK1 ?_ | refine zK2 ?_ | refine ac_seq ?_ | refine ac_block ?_ | refine ac_region ?_ | refine ac_skip ?_ | refine ac_exit ?_ | refine ac_ret ?_ | refine zT ?_ | refine zF ?_)
  refine zStr [2, 2, 0, 0] rfl rfl ?_
  repeat (first | refine zNil ?_ | refine zOp ?_ | refine zOpn ?_ | refine zNo ?_ | refine zNon ?_ | refine zUn ?_ | refine zUnn ?_ | refine zYes ?_ | refine zYesn ?_ | (refine zkL ?_; first | refine zL1 ?_ | refine zL2 ?_ | refine zL3 ?_ | refine zLp ?_) | refine zM ?_ | (refine zkF ?_; first | refine zF1 ?_ | refine zF2 ?_ | refine zF3 ?_) | refine zA ?_ | (refine zkB ?_; first | refine zC5 ?_ | refine zC6 ?_ | refine zC1 ?_ | refine zC2 ?_ | refine zC3 ?_ | refine zC4 ?_ | refine zS5 ?_ | refine zS6 ?_ | refine zS1 ?_ | refine zS2 ?_ | refine zS3 ?_ | refine zS4 ?_ | refine zInc ?_ | refine zQ1 ?_ | refine zQ2 ?_ | refine zQ3 ?_ | refine zQ4 ?_ | refine zQ5 ?_ | refine zQ6 ?_) | (refine zkI ?_; first | refine zN1 (fun hlen => ?_) | refine zN2 (fun hlen => ?_) | refine zN3 ?_ | refine zN4 ?_ | refine zAp (fun _ => ?_)) | refine zS ?_ | refine zAl (fun _ => ?_) | refine zBx (fun _ => ?_) | refine zPt ?_ | refine zPf ?_ | refine zE ?_ | refine zEA ?_ | refine zNot ?_ | refine zBd ?_ | refine zBs ?_ | refine zFn ?_ | refine zK1 ?_ | refine zK2 ?_ | refine ac_seq ?_ | refine ac_block ?_ | refine ac_region ?_ | refine ac_skip ?_ | refine ac_exit ?_ | refine ac_ret ?_ | refine zT ?_ | refine zF ?_)
  first | refine zR ?_ | refine zQ ?_
  rfl
end Go.Proofs.Ythgackidonocpaa
namespace Go.Proofs.Ythgackidonocpaa
open Go.RowKit
theorem rByte_len (s : RS) : (rByte s).2.l.length ≤ s.l.length := by
  obtain ⟨l, b, d⟩ := s
  cases l <;> simp [rByte, RS.fail]
theorem rUns_len : ∀ (k i u : Nat) (s : RS), (rUns k i u s).2.l.length ≤ s.l.length
  | 0, _, _, s => Nat.le_refl _
  | k + 1, i, u, s => by
    have h := rByte_len s
    rw [rUns]
    split
    · exact h
    · split
      · exact h
      · exact Nat.le_trans (rUns_len k _ _ _) h
theorem rNat_len (s : RS) : (rNat s).2.l.length ≤ s.l.length := by
  have h : (rU s).2.l.length ≤ s.l.length := rUns_len _ _ _ s
  unfold rNat
  split <;> exact h
theorem rInt_len (s : RS) : (rInt s).2.l.length ≤ s.l.length := rUns_len _ _ _ s
theorem rInt_dep (s : RS) : (rInt s).2.dep = s.dep := rUns_dep _ _ _ s
theorem rCount_len (s : RS) : (rCount s).2.l.length ≤ s.l.length := by
  have h := rNat_len s
  unfold rCount
  split <;> exact h
theorem rText_len (s : RS) : (rText s).2.l.length ≤ s.l.length := by
  have h := rCount_len s
  simp only [rText, List.length_drop]
  omega
/-- it takes bytes off, and comes back from where it went -/
structure Fair {α : Type} (g : RS → α × RS) : Prop where
  len : ∀ s, (g s).2.l.length ≤ s.l.length
  dep : ∀ s, (g s).2.bad = false → (g s).2.dep = s.dep
  up : ∀ s, s.dep ≤ (g s).2.dep
  top : ∀ s, (g s).2.dep ≤ s.dep + 1
theorem rLoop_fair {α : Type} {g : RS → α × RS} (hg : Fair g) : ∀ n, Fair (rLoop g n)
  | 0 => ⟨fun _ => Nat.le_refl _, fun _ _ => rfl, fun _ => Nat.le_refl _, fun _ => Nat.le_succ _⟩
  | n + 1 => by
    have ih := rLoop_fair hg n
    refine ⟨fun s => ?_, fun s h => ?_, fun s => ?_, fun s => ?_⟩
    · rw [rLoop]
      split
      · exact Nat.le_refl _
      · exact Nat.le_trans (ih.len _) (hg.len s)
    · rw [rLoop] at h ⊢
      split
      · rfl
      · rename_i hc
        rw [if_neg hc] at h
        dsimp only at h ⊢
        rw [ih.dep _ h]
        refine hg.dep s ?_
        cases hb : (g s).2.bad with
        | false => rfl
        | true =>
          cases n with
          | zero => simp only [rLoop] at h; rw [hb] at h; cases h
          | succ n => rw [rLoop, if_pos hb] at h; dsimp only at h; rw [hb] at h; cases h
    · rw [rLoop]
      split
      · exact Nat.le_refl _
      · exact Nat.le_trans (hg.up s) (ih.up _)
    · rw [rLoop]
      split
      · exact Nat.le_succ _
      · dsimp only
        cases hb : (g s).2.bad with
        | false => have h1 := hg.dep s hb; have h2 := ih.top (g s).2; omega
        | true =>
          have h1 := hg.top s
          cases n with
          | zero => simp only [rLoop]; exact h1
          | succ n => rw [rLoop, if_pos hb]; exact h1
theorem rSome_fair {α : Type} {g : RS → α × RS} (hg : Fair g) : Fair (rSome g) :=
  ⟨fun s => Nat.le_trans ((rLoop_fair hg _).len _) (rCount_len s), fun s h => ((rLoop_fair hg _).dep _ h).trans (rCount_dep s), fun s => by have := (rLoop_fair hg (rCount s).1).up (rCount s).2; rw [rCount_dep] at this; exact this, fun s => by have := (rLoop_fair hg (rCount s).1).top (rCount s).2; rw [rCount_dep] at this; exact this⟩
theorem rVal_succ (f : Nat) (s : RS) (h : ¬ 40 < s.dep + 1) : (rVal (f + 1) s).2 = (rSome (rVal f) (rText (rInt (rByte s.up).2).2).2).2.down := by
  rw [rVal, if_neg h]
theorem rVal_stop (f : Nat) (s : RS) (h : 40 < s.dep + 1) : rVal (f + 1) s = (V.zero, s.up.fail) := by
  rw [rVal, if_pos h]
theorem rVal_fair : ∀ f, Fair (rVal f)
  | 0 => ⟨fun _ => Nat.le_refl _, fun _ h => (by cases h), fun _ => Nat.le_succ _, fun _ => Nat.le_refl _⟩
  | f + 1 => by
    have ih := rSome_fair (rVal_fair f)
    refine ⟨fun s => ?_, fun s h => ?_, fun s => ?_, fun s => ?_⟩
    · by_cases h : 40 < s.dep + 1
      · rw [rVal_stop f s h]; exact Nat.le_refl _
      · rw [rVal_succ f s h]
        have h1 := ih.len (rText (rInt (rByte s.up).2).2).2
        have h2 := rText_len (rInt (rByte s.up).2).2
        have h3 := rInt_len (rByte s.up).2
        have h4 := rByte_len s.up
        have h5 : s.up.l = s.l := rfl
        rw [h5] at h4
        simp only [RS.down]
        omega
    · have := ((rVal_ok (f + 1)) s _ _ rfl h).1
      exact (congrArg RS.dep this).symm
    · by_cases h : 40 < s.dep + 1
      · rw [rVal_stop f s h]; exact Nat.le_succ _
      · rw [rVal_succ f s h]
        have h1 := ih.up (rText (rInt (rByte s.up).2).2).2
        rw [rText_dep, rInt_dep, rByte_dep] at h1
        have h5 : s.up.dep = s.dep + 1 := rfl
        rw [h5] at h1
        simp only [RS.down]
        omega
    · by_cases h : 40 < s.dep + 1
      · rw [rVal_stop f s h]; exact Nat.le_refl _
      · rw [rVal_succ f s h]
        have h1 := ih.top (rText (rInt (rByte s.up).2).2).2
        rw [rText_dep, rInt_dep, rByte_dep] at h1
        have h5 : s.up.dep = s.dep + 1 := rfl
        rw [h5] at h1
        simp only [RS.down]
        omega
set_option maxRecDepth 100000 in
set_option maxHeartbeats 2000000 in
theorem someV_ag (b D : Nat) (g : RS → V × RS) (hfg : Fair g) (f : FuncId) (hg : ∀ s : RS, s.dep = D → s.l.length ≤ 1099511627776 → AG Try.prog f [.ptr 0 b 0] [rdB b s] (Gives b (g s).1.t (g s).2))
    (s : RS) (hs : s.dep = D) (hl : s.l.length ≤ 1099511627776) :
    AG Try.prog 164 [.ptr 0 b 0, .own 0 (bfn f b 0)] [rdB b s] (Gives b (V.row (rSome g s).1) (rSome g s).2) := by
  have hc := countR_ag b s
  have hcl := rCount_len s
  have hcn := rCount_le s
  have hcd := rCount_dep s
  unfold rSome
  generalize rCount s = p at *
  obtain ⟨n0, s0⟩ := p
  dsimp only at hc hcl hcn hcd ⊢
  refine ag_enter 1 tok Try.func164 Try.ntmps164 Try.results164 rfl (by kernel_rfl) rfl fun F => ?_
  repeat (first | refine zNil ?_ | refine zOp ?_ | refine zOpn ?_ | refine zNo ?_ | refine zNon ?_ | refine zUn ?_ | refine zUnn ?_ | refine zYes ?_ | refine zYesn ?_ | (refine zkL ?_; first | refine zL1 ?_ | refine zL2 ?_ | refine zL3 ?_ | refine zLp ?_) | refine zM ?_ | (refine zkF ?_; first | refine zF1 ?_ | refine zF2 ?_ | refine zF3 ?_) | refine zA ?_ | (refine zkB ?_; first | refine zC5 ?_ | refine zC6 ?_ | refine zC1 ?_ | refine zC2 ?_ | refine zC3 ?_ | refine zC4 ?_ | refine zS5 ?_ | refine zS6 ?_ | refine zS1 ?_ | refine zS2 ?_ | refine zS3 ?_ | refine zS4 ?_ | refine zInc ?_ | refine zQ1 ?_ | refine zQ2 ?_ | refine zQ3 ?_ | refine zQ4 ?_ | refine zQ5 ?_ | refine zQ6 ?_) | (refine zkI ?_; first | refine zN1 (fun hlen => ?_) | refine zN2 (fun hlen => ?_) | refine zN3 ?_ | refine zN4 ?_ | refine zAp (fun _ => ?_)) | refine zS ?_ | refine zAl (fun _ => ?_) | refine zBx (fun _ => ?_) | refine zPt ?_ | refine zPf ?_ | refine zE ?_ | refine zEA ?_ | refine zNot ?_ | refine zBd ?_ | refine zBs ?_ | refine zFn ?_ | refine zK1 ?_ | refine zK2 ?_ | refine ac_seq ?_ | refine ac_block ?_ | refine ac_region ?_ | refine ac_skip ?_ | refine ac_exit ?_ | refine ac_ret ?_ | refine zT ?_ | refine zF ?_)
  refine zCallG [0] hc ?_
  rintro _ _ ⟨rfl, rfl⟩
  refine ⟨_, _, re_refl, rfl, rfl, ?_⟩
  repeat (first | refine zNil ?_ | refine zOp ?_ | refine zOpn ?_ | refine zNo ?_ | refine zNon ?_ | refine zUn ?_ | refine zUnn ?_ | refine zYes ?_ | refine zYesn ?_ | (refine zkL ?_; first | refine zL1 ?_ | refine zL2 ?_ | refine zL3 ?_ | refine zLp ?_) | refine zM ?_ | (refine zkF ?_; first | refine zF1 ?_ | refine zF2 ?_ | refine zF3 ?_) | refine zA ?_ | (refine zkB ?_; first | refine zC5 ?_ | refine zC6 ?_ | refine zC1 ?_ | refine zC2 ?_ | refine zC3 ?_ | refine zC4 ?_ | refine zS5 ?_ | refine zS6 ?_ | refine zS1 ?_ | refine zS2 ?_ | refine zS3 ?_ | refine zS4 ?_ | refine zInc ?_ | refine zQ1 ?_ | refine zQ2 ?_ | refine zQ3 ?_ | refine zQ4 ?_ | refine zQ5 ?_ | refine zQ6 ?_) | (refine zkI ?_; first | refine zN1 (fun hlen => ?_) | refine zN2 (fun hlen => ?_) | refine zN3 ?_ | refine zN4 ?_ | refine zAp (fun _ => ?_)) | refine zS ?_ | refine zAl (fun _ => ?_) | refine zBx (fun _ => ?_) | refine zPt ?_ | refine zPf ?_ | refine zE ?_ | refine zEA ?_ | refine zNot ?_ | refine zBd ?_ | refine zBs ?_ | refine zFn ?_ | refine zK1 ?_ | refine zK2 ?_ | refine ac_seq ?_ | refine ac_block ?_ | refine ac_region ?_ | refine ac_skip ?_ | refine ac_exit ?_ | refine ac_ret ?_ | refine zT ?_ | refine zF ?_)
  refine x_own 5 24 4 rfl rfl rfl rfl rfl ?_
  refine x_loop [5, 6, 9, 10, 11, 12, 13, 14, 15, 16, 17, 18, 19, 20, 21, 22, 23, 24] (fun y : Nat × List V × Value × RS => [(6, .c (.lit (.int .i64 (y.1 : Int)))), (5, .own 1 y.2.2.1)]) (fun y => [rdB b y.2.2.2, .row y.2.2.1 24 4 y.2.1.length (V.all y.2.1)])
    (fun y => (y.2.2.2.bad = false → y.2.2.2.dep = D) ∧ (y.2.1 ++ (rLoop g y.1 y.2.2.2).1, (rLoop g y.1 y.2.2.2).2) = rLoop g n0 s0 ∧ y.2.1.length + y.1 ≤ 1099511627776 ∧ y.2.2.2.l.length ≤ 1099511627776) (fun y => y.1) (n0, [], .slice none 0 0, s0) ⟨fun _ => hcd.trans hs, by simp, by simp only [List.length_nil]; omega, by simp only; omega⟩ ⟨rfl, rfl, trivial⟩ rfl ?_
  rintro ⟨n, out, v, s'⟩ ⟨hd, hinv, hlen, hsl⟩
  dsimp only at hd hinv hlen hsl ⊢
  cases n with
  | zero =>
    have d1 : decide ((0 : Int) < ((0 : Nat) : Int)) = false := rfl
    simp only [rLoop, List.append_nil] at hinv
    refine x_fz 5 rfl rfl rfl rfl ?_
    repeat (first | refine zNil ?_ | refine zOp ?_ | refine zOpn ?_ | refine zNo ?_ | refine zNon ?_ | refine zUn ?_ | refine zUnn ?_ | refine zYes ?_ | refine zYesn ?_ | (refine zkL ?_; first | refine zL1 ?_ | refine zL2 ?_ | refine zL3 ?_ | refine zLp ?_) | refine zM ?_ | (refine zkF ?_; first | refine zF1 ?_ | refine zF2 ?_ | refine zF3 ?_) | refine zA ?_ | (refine zkB ?_; first | refine zC5 ?_ | refine zC6 ?_ | refine zC1 ?_ | refine zC2 ?_ | refine zC3 ?_ | refine zC4 ?_ | refine zS5 ?_ | refine zS6 ?_ | refine zS1 ?_ | refine zS2 ?_ | refine zS3 ?_ | refine zS4 ?_ | refine zInc ?_ | refine zQ1 ?_ | refine zQ2 ?_ | refine zQ3 ?_ | refine zQ4 ?_ | refine zQ5 ?_ | refine zQ6 ?_) | (refine zkI ?_; first | refine zN1 (fun hlen => ?_) | refine zN2 (fun hlen => ?_) | refine zN3 ?_ | refine zN4 ?_ | refine zAp (fun _ => ?_)) | refine zS ?_ | refine zAl (fun _ => ?_) | refine zBx (fun _ => ?_) | refine zPt ?_ | refine zPf ?_ | refine zE ?_ | refine zEA ?_ | refine zNot ?_ | refine zBd ?_ | refine zBs ?_ | refine zFn ?_ | refine zK1 ?_ | refine zK2 ?_ | refine ac_seq ?_ | refine ac_block ?_ | refine ac_region ?_ | refine ac_skip ?_ | refine ac_exit ?_ | refine ac_ret ?_ | refine zT ?_ | refine zF ?_)
    refine zG ?_
    rw [← hinv]
    exact ⟨rfl, rfl⟩
  | succ n =>
    have d1 : decide ((0 : Int) < ((n + 1 : Nat) : Int)) = true := decide_eq_true (by omega)
    obtain ⟨l1, bad1, dp1⟩ := s'
    cases bad1
    · have hdd := hd rfl
      have hca := hg ⟨l1, false, dp1⟩ hdd hsl
      have hgl := hfg.len ⟨l1, false, dp1⟩
      have hgd := hfg.dep ⟨l1, false, dp1⟩
      simp only [rLoop, Bool.false_eq_true, if_false] at hinv
      dsimp only at hdd hgl hgd
      generalize g ⟨l1, false, dp1⟩ = q at *
      obtain ⟨⟨kv, nv, tv, lv⟩, s2⟩ := q
      dsimp only at hinv hca hgl hgd
      repeat (first | refine zNil ?_ | refine zOp ?_ | refine zOpn ?_ | refine zNo ?_ | refine zNon ?_ | refine zUn ?_ | refine zUnn ?_ | refine zYes ?_ | refine zYesn ?_ | (refine zkL ?_; first | refine zL1 ?_ | refine zL2 ?_ | refine zL3 ?_ | refine zLp ?_) | refine zM ?_ | (refine zkF ?_; first | refine zF1 ?_ | refine zF2 ?_ | refine zF3 ?_) | refine zA ?_ | (refine zkB ?_; first | refine zC5 ?_ | refine zC6 ?_ | refine zC1 ?_ | refine zC2 ?_ | refine zC3 ?_ | refine zC4 ?_ | refine zS5 ?_ | refine zS6 ?_ | refine zS1 ?_ | refine zS2 ?_ | refine zS3 ?_ | refine zS4 ?_ | refine zInc ?_ | refine zQ1 ?_ | refine zQ2 ?_ | refine zQ3 ?_ | refine zQ4 ?_ | refine zQ5 ?_ | refine zQ6 ?_) | (refine zkI ?_; first | refine zN1 (fun hlen => ?_) | refine zN2 (fun hlen => ?_) | refine zN3 ?_ | refine zN4 ?_ | refine zAp (fun _ => ?_)) | refine zS ?_ | refine zAl (fun _ => ?_) | refine zBx (fun _ => ?_) | refine zPt ?_ | refine zPf ?_ | refine zE ?_ | refine zEA ?_ | refine zNot ?_ | refine zBd ?_ | refine zBs ?_ | refine zFn ?_ | refine zK1 ?_ | refine zK2 ?_ | refine ac_seq ?_ | refine ac_block ?_ | refine ac_region ?_ | refine ac_skip ?_ | refine ac_exit ?_ | refine ac_ret ?_ | refine zT ?_ | refine zF ?_)
      refine zCallGb [0] hca ?_
      rintro _ _ ⟨rfl, rfl⟩
      refine ⟨_, _, re_refl, rfl, rfl, ?_⟩
      repeat (first | refine zNil ?_ | refine zOp ?_ | refine zOpn ?_ | refine zNo ?_ | refine zNon ?_ | refine zUn ?_ | refine zUnn ?_ | refine zYes ?_ | refine zYesn ?_ | (refine zkL ?_; first | refine zL1 ?_ | refine zL2 ?_ | refine zL3 ?_ | refine zLp ?_) | refine zM ?_ | (refine zkF ?_; first | refine zF1 ?_ | refine zF2 ?_ | refine zF3 ?_) | refine zA ?_ | (refine zkB ?_; first | refine zC5 ?_ | refine zC6 ?_ | refine zC1 ?_ | refine zC2 ?_ | refine zC3 ?_ | refine zC4 ?_ | refine zS5 ?_ | refine zS6 ?_ | refine zS1 ?_ | refine zS2 ?_ | refine zS3 ?_ | refine zS4 ?_ | refine zInc ?_ | refine zQ1 ?_ | refine zQ2 ?_ | refine zQ3 ?_ | refine zQ4 ?_ | refine zQ5 ?_ | refine zQ6 ?_) | (refine zkI ?_; first | refine zN1 (fun hlen => ?_) | refine zN2 (fun hlen => ?_) | refine zN3 ?_ | refine zN4 ?_ | refine zAp (fun _ => ?_)) | refine zS ?_ | refine zAl (fun _ => ?_) | refine zBx (fun _ => ?_) | refine zPt ?_ | refine zPf ?_ | refine zE ?_ | refine zEA ?_ | refine zNot ?_ | refine zBd ?_ | refine zBs ?_ | refine zFn ?_ | refine zK1 ?_ | refine zK2 ?_ | refine ac_seq ?_ | refine ac_block ?_ | refine ac_region ?_ | refine ac_skip ?_ | refine ac_exit ?_ | refine ac_ret ?_ | refine zT ?_ | refine zF ?_)
      refine lo_sub rfl rfl (r := (n : Int)) (by rw [IntWalk.i64_in _ (by omega)]; omega) ?_
      repeat (first | refine zNil ?_ | refine zOp ?_ | refine zOpn ?_ | refine zNo ?_ | refine zNon ?_ | refine zUn ?_ | refine zUnn ?_ | refine zYes ?_ | refine zYesn ?_ | (refine zkL ?_; first | refine zL1 ?_ | refine zL2 ?_ | refine zL3 ?_ | refine zLp ?_) | refine zM ?_ | (refine zkF ?_; first | refine zF1 ?_ | refine zF2 ?_ | refine zF3 ?_) | refine zA ?_ | (refine zkB ?_; first | refine zC5 ?_ | refine zC6 ?_ | refine zC1 ?_ | refine zC2 ?_ | refine zC3 ?_ | refine zC4 ?_ | refine zS5 ?_ | refine zS6 ?_ | refine zS1 ?_ | refine zS2 ?_ | refine zS3 ?_ | refine zS4 ?_ | refine zInc ?_ | refine zQ1 ?_ | refine zQ2 ?_ | refine zQ3 ?_ | refine zQ4 ?_ | refine zQ5 ?_ | refine zQ6 ?_) | (refine zkI ?_; first | refine zN1 (fun hlen => ?_) | refine zN2 (fun hlen => ?_) | refine zN3 ?_ | refine zN4 ?_ | refine zAp (fun _ => ?_)) | refine zS ?_ | refine zAl (fun _ => ?_) | refine zBx (fun _ => ?_) | refine zPt ?_ | refine zPf ?_ | refine zE ?_ | refine zEA ?_ | refine zNot ?_ | refine zBd ?_ | refine zBs ?_ | refine zFn ?_ | refine zK1 ?_ | refine zK2 ?_ | refine ac_seq ?_ | refine ac_block ?_ | refine ac_region ?_ | refine ac_skip ?_ | refine ac_exit ?_ | refine ac_ret ?_ | refine zT ?_ | refine zF ?_)
      exact ⟨(n, out ++ [.mk kv nv tv lv], _, s2), ⟨fun h => (hgd h).trans hdd, by simpa using hinv, by simp only [List.length_append, List.length_cons, List.length_nil]; omega, by simp only at hsl ⊢; omega⟩, by simp only; omega, x_wkd 2 ⟨rfl, rfl, trivial⟩ (by simp only [V.all_app, V.all_one, List.length_append, List.length_cons, List.length_nil]; rfl) (by repeat (first | exact ag_refl | refine ag_upd rfl ?_ | refine ag_at rfl rfl ?_))⟩
    · simp only [rLoop, if_true, List.append_nil] at hinv
      refine x_fz 5 rfl rfl rfl rfl ?_
      repeat (first | refine zNil ?_ | refine zOp ?_ | refine zOpn ?_ | refine zNo ?_ | refine zNon ?_ | refine zUn ?_ | refine zUnn ?_ | refine zYes ?_ | refine zYesn ?_ | (refine zkL ?_; first | refine zL1 ?_ | refine zL2 ?_ | refine zL3 ?_ | refine zLp ?_) | refine zM ?_ | (refine zkF ?_; first | refine zF1 ?_ | refine zF2 ?_ | refine zF3 ?_) | refine zA ?_ | (refine zkB ?_; first | refine zC5 ?_ | refine zC6 ?_ | refine zC1 ?_ | refine zC2 ?_ | refine zC3 ?_ | refine zC4 ?_ | refine zS5 ?_ | refine zS6 ?_ | refine zS1 ?_ | refine zS2 ?_ | refine zS3 ?_ | refine zS4 ?_ | refine zInc ?_ | refine zQ1 ?_ | refine zQ2 ?_ | refine zQ3 ?_ | refine zQ4 ?_ | refine zQ5 ?_ | refine zQ6 ?_) | (refine zkI ?_; first | refine zN1 (fun hlen => ?_) | refine zN2 (fun hlen => ?_) | refine zN3 ?_ | refine zN4 ?_ | refine zAp (fun _ => ?_)) | refine zS ?_ | refine zAl (fun _ => ?_) | refine zBx (fun _ => ?_) | refine zPt ?_ | refine zPf ?_ | refine zE ?_ | refine zEA ?_ | refine zNot ?_ | refine zBd ?_ | refine zBs ?_ | refine zFn ?_ | refine zK1 ?_ | refine zK2 ?_ | refine ac_seq ?_ | refine ac_block ?_ | refine ac_region ?_ | refine ac_skip ?_ | refine ac_exit ?_ | refine ac_ret ?_ | refine zT ?_ | refine zF ?_)
      refine zG ?_
      rw [← hinv]
      exact ⟨rfl, rfl⟩
end Go.Proofs.Ythgackidonocpaa
namespace Go.Proofs.Ythgackidonocpaa
open Go.RowKit
set_option maxRecDepth 100000 in
set_option maxHeartbeats 4000000 in
theorem valueR_ag (b : Nat) : ∀ (f : Nat) (s : RS), 40 ≤ s.dep + f → s.dep ≤ 1000 → s.l.length ≤ 1099511627776 → AG Try.prog 80 [.ptr 0 b 0] [rdB b s] (Gives b (rVal f s).1.t (rVal f s).2) := by
  intro f
  induction f with
  | zero =>
    intro s hf hd hl
    obtain ⟨l, bad, d⟩ := s
    dsimp only at hf hd hl
    have d1 : decide ((40 : Int) < ((d + 1 : Nat) : Int)) = true := decide_eq_true (by omega)
    refine AG.re (R := fun r hs => Re r (.c V.zero.t) ∧ hs = [rdB b (RS.mk l bad d).up.fail]) ?_ (fun r hs h => ⟨_, h.1, rfl, h.2⟩)
    refine ag_enter 1 tok Try.func80 Try.ntmps80 Try.results80 rfl (by kernel_rfl) rfl fun F => ?_
    repeat (first | refine zNil ?_ | refine zOp ?_ | refine zOpn ?_ | refine zNo ?_ | refine zNon ?_ | refine zUn ?_ | refine zUnn ?_ | refine zYes ?_ | refine zYesn ?_ | (refine zkL ?_; first | refine zL1 ?_ | refine zL2 ?_ | refine zL3 ?_ | refine zLp ?_) | refine zM ?_ | (refine zkF ?_; first | refine zF1 ?_ | refine zF2 ?_ | refine zF3 ?_) | refine zA ?_ | (refine zkB ?_; first | refine zC5 ?_ | refine zC6 ?_ | refine zC1 ?_ | refine zC2 ?_ | refine zC3 ?_ | refine zC4 ?_ | refine zS5 ?_ | refine zS6 ?_ | refine zS1 ?_ | refine zS2 ?_ | refine zS3 ?_ | refine zS4 ?_ | refine zInc ?_ | refine zQ1 ?_ | refine zQ2 ?_ | refine zQ3 ?_ | refine zQ4 ?_ | refine zQ5 ?_ | refine zQ6 ?_) | (refine zkI ?_; first | refine zN1 (fun hlen => ?_) | refine zN2 (fun hlen => ?_) | refine zN3 ?_ | refine zN4 ?_ | refine zAp (fun _ => ?_)) | refine zS ?_ | refine zAl (fun _ => ?_) | refine zBx (fun _ => ?_) | refine zPt ?_ | refine zPf ?_ | refine zE ?_ | refine zEA ?_ | refine zNot ?_ | refine zBd ?_ | refine zBs ?_ | refine zFn ?_ | refine zK1 ?_ | refine zK2 ?_ | refine ac_seq ?_ | refine ac_block ?_ | refine ac_region ?_ | refine ac_skip ?_ | refine ac_exit ?_ | refine ac_ret ?_ | refine zT ?_ | refine zF ?_)
    refine zG ?_
    exact ⟨re_cls (by repeat (first | exact rzs_nil | apply rzs_cons | exact rz_c | exact rz_nil rfl | apply rz_agg | exact rz_own rfl | apply rz_fn | exact rz_ptr rfl | apply rz_tup)), rfl⟩
  | succ f ih =>
    intro s hf hd hl
    by_cases h40 : 40 < s.dep + 1
    · rw [rVal_stop f s h40]
      obtain ⟨l, bad, d⟩ := s
      dsimp only at hf hd hl h40
      have d1 : decide ((40 : Int) < ((d + 1 : Nat) : Int)) = true := decide_eq_true (by omega)
      refine AG.re (R := fun r hs => Re r (.c V.zero.t) ∧ hs = [rdB b (RS.mk l bad d).up.fail]) ?_ (fun r hs h => ⟨_, h.1, rfl, h.2⟩)
      refine ag_enter 1 tok Try.func80 Try.ntmps80 Try.results80 rfl (by kernel_rfl) rfl fun F => ?_
      repeat (first | refine zNil ?_ | refine zOp ?_ | refine zOpn ?_ | refine zNo ?_ | refine zNon ?_ | refine zUn ?_ | refine zUnn ?_ | refine zYes ?_ | refine zYesn ?_ | (refine zkL ?_; first | refine zL1 ?_ | refine zL2 ?_ | refine zL3 ?_ | refine zLp ?_) | refine zM ?_ | (refine zkF ?_; first | refine zF1 ?_ | refine zF2 ?_ | refine zF3 ?_) | refine zA ?_ | (refine zkB ?_; first | refine zC5 ?_ | refine zC6 ?_ | refine zC1 ?_ | refine zC2 ?_ | refine zC3 ?_ | refine zC4 ?_ | refine zS5 ?_ | refine zS6 ?_ | refine zS1 ?_ | refine zS2 ?_ | refine zS3 ?_ | refine zS4 ?_ | refine zInc ?_ | refine zQ1 ?_ | refine zQ2 ?_ | refine zQ3 ?_ | refine zQ4 ?_ | refine zQ5 ?_ | refine zQ6 ?_) | (refine zkI ?_; first | refine zN1 (fun hlen => ?_) | refine zN2 (fun hlen => ?_) | refine zN3 ?_ | refine zN4 ?_ | refine zAp (fun _ => ?_)) | refine zS ?_ | refine zAl (fun _ => ?_) | refine zBx (fun _ => ?_) | refine zPt ?_ | refine zPf ?_ | refine zE ?_ | refine zEA ?_ | refine zNot ?_ | refine zBd ?_ | refine zBs ?_ | refine zFn ?_ | refine zK1 ?_ | refine zK2 ?_ | refine ac_seq ?_ | refine ac_block ?_ | refine ac_region ?_ | refine ac_skip ?_ | refine ac_exit ?_ | refine ac_ret ?_ | refine zT ?_ | refine zF ?_)
      refine zG ?_
      exact ⟨re_cls (by repeat (first | exact rzs_nil | apply rzs_cons | exact rz_c | exact rz_nil rfl | apply rz_agg | exact rz_own rfl | apply rz_fn | exact rz_ptr rfl | apply rz_tup)), rfl⟩
    · rw [rVal, if_neg h40]
      have c1 := byte_ag b s.up
      have l1 := rByte_len s.up
      have p1 := rByte_dep s.up
      generalize rByte s.up = q1 at *
      obtain ⟨k, s1⟩ := q1
      dsimp only at c1 l1 p1 ⊢
      have c2 := intR_ag b s1
      have l2 := rInt_len s1
      have p2 := rInt_dep s1
      generalize rInt s1 = q2 at *
      obtain ⟨n, s2⟩ := q2
      dsimp only at c2 l2 p2 ⊢
      have c3 := textR_ag b s2
      have l3 := rText_len s2
      have p3 := rText_dep s2
      generalize rText s2 = q3 at *
      obtain ⟨t, s3⟩ := q3
      dsimp only at c3 l3 p3 ⊢
      have hu : s.up.l = s.l := rfl
      have hp : s.up.dep = s.dep + 1 := rfl
      rw [hu] at l1
      have c4 := someV_ag b (s.dep + 1) (rVal f) (rVal_fair f) 80 (fun s' hs' hl' => ih s' (by omega) (by omega) hl') s3 (by omega) (by omega)
      have p4 := (rSome_fair (rVal_fair f)).up s3
      have p5 := (rSome_fair (rVal_fair f)).top s3
      generalize rSome (rVal f) s3 = q4 at *
      obtain ⟨a, s4⟩ := q4
      dsimp only at c4 p4 p5 ⊢
      have hdn : IntKind.i64.wrap ((s4.dep : Int) - 1) = ((s4.dep - 1 : Nat) : Int) := by rw [IntWalk.i64_in _ (by omega)]; omega
      obtain ⟨l, bad, d⟩ := s
      dsimp only at hf hd hl h40 p4
      have d1 : decide ((40 : Int) < ((d + 1 : Nat) : Int)) = false := decide_eq_false (by omega)
      refine AG.re (R := fun r hs => Re r (.c (V.mk k n (bs t) a).t) ∧ hs = [rdB b s4.down]) ?_ (fun r hs h => ⟨_, h.1, rfl, h.2⟩)
      refine ag_enter 1 tok Try.func80 Try.ntmps80 Try.results80 rfl (by kernel_rfl) rfl fun F => ?_
      repeat (first | refine zNil ?_ | refine zOp ?_ | refine zOpn ?_ | refine zNo ?_ | refine zNon ?_ | refine zUn ?_ | refine zUnn ?_ | refine zYes ?_ | refine zYesn ?_ | (refine zkL ?_; first | refine zL1 ?_ | refine zL2 ?_ | refine zL3 ?_ | refine zLp ?_) | refine zM ?_ | (refine zkF ?_; first | refine zF1 ?_ | refine zF2 ?_ | refine zF3 ?_) | refine zA ?_ | (refine zkB ?_; first | refine zC5 ?_ | refine zC6 ?_ | refine zC1 ?_ | refine zC2 ?_ | refine zC3 ?_ | refine zC4 ?_ | refine zS5 ?_ | refine zS6 ?_ | refine zS1 ?_ | refine zS2 ?_ | refine zS3 ?_ | refine zS4 ?_ | refine zInc ?_ | refine zQ1 ?_ | refine zQ2 ?_ | refine zQ3 ?_ | refine zQ4 ?_ | refine zQ5 ?_ | refine zQ6 ?_) | (refine zkI ?_; first | refine zN1 (fun hlen => ?_) | refine zN2 (fun hlen => ?_) | refine zN3 ?_ | refine zN4 ?_ | refine zAp (fun _ => ?_)) | refine zS ?_ | refine zAl (fun _ => ?_) | refine zBx (fun _ => ?_) | refine zPt ?_ | refine zPf ?_ | refine zE ?_ | refine zEA ?_ | refine zNot ?_ | refine zBd ?_ | refine zBs ?_ | refine zFn ?_ | refine zK1 ?_ | refine zK2 ?_ | refine ac_seq ?_ | refine ac_block ?_ | refine ac_region ?_ | refine ac_skip ?_ | refine ac_exit ?_ | refine ac_ret ?_ | refine zT ?_ | refine zF ?_)
      rename_i b2
      refine x_join [21, 22, 23, 24, 25, 26, 27, 28, 29, 30, 31, 32, 33, 34, 35, 36, 37, 38, 39, 3] (fun b3 : Nat => [(3, .ptr 2 b3 0)]) (fun b3 => [rdB b s4, .box b2 24 [.c (.lit (.int .i64 0)), .c (.lit (.int .i64 0)), .c (.lit (.string ⟨#[]⟩)), .c (.lit (.slice none 0 0))], .box b3 24 [.c (.lit (.int .i64 (k : Int))), .c (.lit (.int .i64 n)), .c (.lit (.string (bs t))), .c (V.row a)]]) ?_ ?_
      rotate_left
      · skip
        refine ac_drawT [0, 0, 0, 2, 0, 0, 0, 2, 0, 0, 0, 2, 0, 0, 0, 0, 0, 2, 0, 3, 2] (.fork [0, 1, 2, 4, 5, 6, 8, 9, 10, 12, 13, 14, 15, 16] 3 (.fork [] 7 (.fork [] 11 (.fork [] 17 (.fin [18, 19, 20]) 19 (.fin [17, 18, 20])) 19 (.fin [11, 17, 18, 20])) 19 (.fin [7, 11, 17, 18, 20])) 19 (.fin [3, 7, 11, 17, 18, 20])) (by kernel_rfl) (by kernel_rfl) ?_
        refine wt_fork ?_
        apply w_p; (focus exact rfl); (focus exact rfl); focus (intro _; (refine zM ?_); exact det_refl)
        apply w_p; (focus exact rfl); (focus exact rfl); focus (intro _; (first | refine zK1 ?_ | refine zK2 ?_); exact det_refl)
        apply w_p; (focus exact rfl); (focus exact rfl); focus (intro _; (first | refine zF1 ?_ | refine zF2 ?_ | refine zF3 ?_); exact det_refl)
        apply w_p; (focus exact rfl); (focus exact rfl); focus (intro _; (refine zM ?_); exact det_refl)
        apply w_p; (focus exact rfl); (focus exact rfl); focus (intro _; (first | refine zK1 ?_ | refine zK2 ?_); exact det_refl)
        apply w_p; (focus exact rfl); (focus exact rfl); focus (intro _; (first | refine zF1 ?_ | refine zF2 ?_ | refine zF3 ?_); exact det_refl)
        apply w_p; (focus exact rfl); (focus exact rfl); focus (intro _; (refine zM ?_); exact det_refl)
        apply w_p; (focus exact rfl); (focus exact rfl); focus (intro _; (first | refine zK1 ?_ | refine zK2 ?_); exact det_refl)
        apply w_p; (focus exact rfl); (focus exact rfl); focus (intro _; (first | refine zF1 ?_ | refine zF2 ?_ | refine zF3 ?_); exact det_refl)
        apply w_p; (focus exact rfl); (focus exact rfl); focus (intro _; (refine zM ?_); exact det_refl)
        apply w_p; (focus exact rfl); (focus exact rfl); focus (intro _; (first | refine zK1 ?_ | refine zK2 ?_); exact det_refl)
        apply w_p; (focus exact rfl); (focus exact rfl); focus (intro _; (first | refine zF1 ?_ | refine zF2 ?_ | refine zF3 ?_); exact det_refl)
        apply w_p; (focus exact rfl); (focus exact rfl); focus (intro _; (refine zM ?_); exact det_refl)
        apply w_p; (focus exact rfl); (focus exact rfl); focus (intro _; (refine zMf ?_); exact det_refl)
        refine w_nil ?_
        refine ⟨?_, ?_⟩
        · apply w_l; (focus exact rfl); (focus exact rfl); (refine zCallG [0] c1 ?_; rintro _ _ ⟨rfl, rfl⟩; refine ⟨_, _, re_refl, rfl, rfl, ?_⟩)
          refine w_nil ?_
          refine wt_fork ?_
          refine w_nil ?_
          refine ⟨?_, ?_⟩
          · apply w_l; (focus exact rfl); (focus exact rfl); (refine zCallG [0] c2 ?_; rintro _ _ ⟨rfl, rfl⟩; refine ⟨_, _, re_refl, rfl, rfl, ?_⟩)
            refine w_nil ?_
            refine wt_fork ?_
            refine w_nil ?_
            refine ⟨?_, ?_⟩
            · apply w_l; (focus exact rfl); (focus exact rfl); (refine zCallG [0] c3 ?_; rintro _ _ ⟨rfl, rfl⟩; refine ⟨_, _, re_refl, rfl, rfl, ?_⟩)
              refine w_nil ?_
              refine wt_fork ?_
              refine w_nil ?_
              refine ⟨?_, ?_⟩
              · apply w_l; (focus exact rfl); (focus exact rfl); (refine zCallG [0] c4 ?_; rintro _ _ ⟨rfl, rfl⟩; refine ⟨_, _, re_refl, rfl, rfl, ?_⟩)
                refine w_nil ?_
                refine wt_fin ?_
                apply w_p; (focus exact rfl); (focus exact rfl); focus (intro _; (refine zBd ?_); exact det_refl)
                apply w_a; (focus exact rfl); (focus exact rfl); refine v_alloc tok rfl rfl rfl (fun _ => rfl) (fun _ => ⟨⟨_, rfl⟩, ?_⟩)
                apply w_l; (focus exact rfl); (focus exact rfl); (first | (refine zkL ?_; first | refine zL1 ?_ | refine zL2 ?_ | refine zL3 ?_ | refine zLp ?_) | refine zM ?_ | (refine zkF ?_; first | refine zF1 ?_ | refine zF2 ?_ | refine zF3 ?_) | refine zA ?_ | (refine zkB ?_; first | refine zC5 ?_ | refine zC6 ?_ | refine zC1 ?_ | refine zC2 ?_ | refine zC3 ?_ | refine zC4 ?_ | refine zS5 ?_ | refine zS6 ?_ | refine zS1 ?_ | refine zS2 ?_ | refine zS3 ?_ | refine zS4 ?_ | refine zInc ?_ | refine zQ1 ?_ | refine zQ2 ?_ | refine zQ3 ?_ | refine zQ4 ?_ | refine zQ5 ?_ | refine zQ6 ?_) | (refine zkI ?_; first | refine zN1 (fun hlen => ?_) | refine zN2 (fun hlen => ?_) | refine zN3 ?_ | refine zN4 ?_ | refine zAp (fun _ => ?_)) | refine zS ?_ | refine zAl (fun _ => ?_) | refine zBx (fun _ => ?_) | refine zPt ?_ | refine zPf ?_ | refine zE ?_ | refine zEA ?_ | refine zNot ?_ | refine zBd ?_ | refine zBs ?_ | refine zFn ?_ | refine zK1 ?_ | refine zK2 ?_)
                refine w_nil ?_
                exact ⟨_, x_wkd 3 ⟨rfl, trivial⟩ rfl (by repeat (first | exact ag_refl | refine ag_upd rfl ?_ | refine ag_at rfl rfl ?_))⟩
              · apply w_a; (focus exact rfl); (focus exact rfl); refine v_alloc tok rfl rfl rfl (fun _ => rfl) (fun _ => ⟨⟨_, rfl⟩, ?_⟩)
                refine w_nil ?_
                refine wt_fin ?_
                apply w_l; (focus exact rfl); (focus exact rfl); (refine zCallG [0] c4 ?_; rintro _ _ ⟨rfl, rfl⟩; refine ⟨_, _, re_refl, rfl, rfl, ?_⟩)
                apply w_p; (focus exact rfl); (focus exact rfl); focus (intro _; (refine zBd ?_); exact det_refl)
                apply w_l; (focus exact rfl); (focus exact rfl); (first | (refine zkL ?_; first | refine zL1 ?_ | refine zL2 ?_ | refine zL3 ?_ | refine zLp ?_) | refine zM ?_ | (refine zkF ?_; first | refine zF1 ?_ | refine zF2 ?_ | refine zF3 ?_) | refine zA ?_ | (refine zkB ?_; first | refine zC5 ?_ | refine zC6 ?_ | refine zC1 ?_ | refine zC2 ?_ | refine zC3 ?_ | refine zC4 ?_ | refine zS5 ?_ | refine zS6 ?_ | refine zS1 ?_ | refine zS2 ?_ | refine zS3 ?_ | refine zS4 ?_ | refine zInc ?_ | refine zQ1 ?_ | refine zQ2 ?_ | refine zQ3 ?_ | refine zQ4 ?_ | refine zQ5 ?_ | refine zQ6 ?_) | (refine zkI ?_; first | refine zN1 (fun hlen => ?_) | refine zN2 (fun hlen => ?_) | refine zN3 ?_ | refine zN4 ?_ | refine zAp (fun _ => ?_)) | refine zS ?_ | refine zAl (fun _ => ?_) | refine zBx (fun _ => ?_) | refine zPt ?_ | refine zPf ?_ | refine zE ?_ | refine zEA ?_ | refine zNot ?_ | refine zBd ?_ | refine zBs ?_ | refine zFn ?_ | refine zK1 ?_ | refine zK2 ?_)
                refine w_nil ?_
                exact ⟨_, x_wkd 3 ⟨rfl, trivial⟩ rfl (by repeat (first | exact ag_refl | refine ag_upd rfl ?_ | refine ag_at rfl rfl ?_))⟩
            · apply w_a; (focus exact rfl); (focus exact rfl); refine v_alloc tok rfl rfl rfl (fun _ => rfl) (fun _ => ⟨⟨_, rfl⟩, ?_⟩)
              refine w_nil ?_
              refine wt_fin ?_
              apply w_l; (focus exact rfl); (focus exact rfl); (refine zCallG [0] c3 ?_; rintro _ _ ⟨rfl, rfl⟩; refine ⟨_, _, re_refl, rfl, rfl, ?_⟩)
              apply w_l; (focus exact rfl); (focus exact rfl); (refine zCallG [0] c4 ?_; rintro _ _ ⟨rfl, rfl⟩; refine ⟨_, _, re_refl, rfl, rfl, ?_⟩)
              apply w_p; (focus exact rfl); (focus exact rfl); focus (intro _; (refine zBd ?_); exact det_refl)
              apply w_l; (focus exact rfl); (focus exact rfl); (first | (refine zkL ?_; first | refine zL1 ?_ | refine zL2 ?_ | refine zL3 ?_ | refine zLp ?_) | refine zM ?_ | (refine zkF ?_; first | refine zF1 ?_ | refine zF2 ?_ | refine zF3 ?_) | refine zA ?_ | (refine zkB ?_; first | refine zC5 ?_ | refine zC6 ?_ | refine zC1 ?_ | refine zC2 ?_ | refine zC3 ?_ | refine zC4 ?_ | refine zS5 ?_ | refine zS6 ?_ | refine zS1 ?_ | refine zS2 ?_ | refine zS3 ?_ | refine zS4 ?_ | refine zInc ?_ | refine zQ1 ?_ | refine zQ2 ?_ | refine zQ3 ?_ | refine zQ4 ?_ | refine zQ5 ?_ | refine zQ6 ?_) | (refine zkI ?_; first | refine zN1 (fun hlen => ?_) | refine zN2 (fun hlen => ?_) | refine zN3 ?_ | refine zN4 ?_ | refine zAp (fun _ => ?_)) | refine zS ?_ | refine zAl (fun _ => ?_) | refine zBx (fun _ => ?_) | refine zPt ?_ | refine zPf ?_ | refine zE ?_ | refine zEA ?_ | refine zNot ?_ | refine zBd ?_ | refine zBs ?_ | refine zFn ?_ | refine zK1 ?_ | refine zK2 ?_)
              refine w_nil ?_
              exact ⟨_, x_wkd 3 ⟨rfl, trivial⟩ rfl (by repeat (first | exact ag_refl | refine ag_upd rfl ?_ | refine ag_at rfl rfl ?_))⟩
          · apply w_a; (focus exact rfl); (focus exact rfl); refine v_alloc tok rfl rfl rfl (fun _ => rfl) (fun _ => ⟨⟨_, rfl⟩, ?_⟩)
            refine w_nil ?_
            refine wt_fin ?_
            apply w_l; (focus exact rfl); (focus exact rfl); (refine zCallG [0] c2 ?_; rintro _ _ ⟨rfl, rfl⟩; refine ⟨_, _, re_refl, rfl, rfl, ?_⟩)
            apply w_l; (focus exact rfl); (focus exact rfl); (refine zCallG [0] c3 ?_; rintro _ _ ⟨rfl, rfl⟩; refine ⟨_, _, re_refl, rfl, rfl, ?_⟩)
            apply w_l; (focus exact rfl); (focus exact rfl); (refine zCallG [0] c4 ?_; rintro _ _ ⟨rfl, rfl⟩; refine ⟨_, _, re_refl, rfl, rfl, ?_⟩)
            apply w_p; (focus exact rfl); (focus exact rfl); focus (intro _; (refine zBd ?_); exact det_refl)
            apply w_l; (focus exact rfl); (focus exact rfl); (first | (refine zkL ?_; first | refine zL1 ?_ | refine zL2 ?_ | refine zL3 ?_ | refine zLp ?_) | refine zM ?_ | (refine zkF ?_; first | refine zF1 ?_ | refine zF2 ?_ | refine zF3 ?_) | refine zA ?_ | (refine zkB ?_; first | refine zC5 ?_ | refine zC6 ?_ | refine zC1 ?_ | refine zC2 ?_ | refine zC3 ?_ | refine zC4 ?_ | refine zS5 ?_ | refine zS6 ?_ | refine zS1 ?_ | refine zS2 ?_ | refine zS3 ?_ | refine zS4 ?_ | refine zInc ?_ | refine zQ1 ?_ | refine zQ2 ?_ | refine zQ3 ?_ | refine zQ4 ?_ | refine zQ5 ?_ | refine zQ6 ?_) | (refine zkI ?_; first | refine zN1 (fun hlen => ?_) | refine zN2 (fun hlen => ?_) | refine zN3 ?_ | refine zN4 ?_ | refine zAp (fun _ => ?_)) | refine zS ?_ | refine zAl (fun _ => ?_) | refine zBx (fun _ => ?_) | refine zPt ?_ | refine zPf ?_ | refine zE ?_ | refine zEA ?_ | refine zNot ?_ | refine zBd ?_ | refine zBs ?_ | refine zFn ?_ | refine zK1 ?_ | refine zK2 ?_)
            refine w_nil ?_
            exact ⟨_, x_wkd 3 ⟨rfl, trivial⟩ rfl (by repeat (first | exact ag_refl | refine ag_upd rfl ?_ | refine ag_at rfl rfl ?_))⟩
        · apply w_a; (focus exact rfl); (focus exact rfl); refine v_alloc tok rfl rfl rfl (fun _ => rfl) (fun _ => ⟨⟨_, rfl⟩, ?_⟩)
          refine w_nil ?_
          refine wt_fin ?_
          apply w_l; (focus exact rfl); (focus exact rfl); (refine zCallG [0] c1 ?_; rintro _ _ ⟨rfl, rfl⟩; refine ⟨_, _, re_refl, rfl, rfl, ?_⟩)
          apply w_l; (focus exact rfl); (focus exact rfl); (refine zCallG [0] c2 ?_; rintro _ _ ⟨rfl, rfl⟩; refine ⟨_, _, re_refl, rfl, rfl, ?_⟩)
          apply w_l; (focus exact rfl); (focus exact rfl); (refine zCallG [0] c3 ?_; rintro _ _ ⟨rfl, rfl⟩; refine ⟨_, _, re_refl, rfl, rfl, ?_⟩)
          apply w_l; (focus exact rfl); (focus exact rfl); (refine zCallG [0] c4 ?_; rintro _ _ ⟨rfl, rfl⟩; refine ⟨_, _, re_refl, rfl, rfl, ?_⟩)
          apply w_p; (focus exact rfl); (focus exact rfl); focus (intro _; (refine zBd ?_); exact det_refl)
          apply w_l; (focus exact rfl); (focus exact rfl); (first | (refine zkL ?_; first | refine zL1 ?_ | refine zL2 ?_ | refine zL3 ?_ | refine zLp ?_) | refine zM ?_ | (refine zkF ?_; first | refine zF1 ?_ | refine zF2 ?_ | refine zF3 ?_) | refine zA ?_ | (refine zkB ?_; first | refine zC5 ?_ | refine zC6 ?_ | refine zC1 ?_ | refine zC2 ?_ | refine zC3 ?_ | refine zC4 ?_ | refine zS5 ?_ | refine zS6 ?_ | refine zS1 ?_ | refine zS2 ?_ | refine zS3 ?_ | refine zS4 ?_ | refine zInc ?_ | refine zQ1 ?_ | refine zQ2 ?_ | refine zQ3 ?_ | refine zQ4 ?_ | refine zQ5 ?_ | refine zQ6 ?_) | (refine zkI ?_; first | refine zN1 (fun hlen => ?_) | refine zN2 (fun hlen => ?_) | refine zN3 ?_ | refine zN4 ?_ | refine zAp (fun _ => ?_)) | refine zS ?_ | refine zAl (fun _ => ?_) | refine zBx (fun _ => ?_) | refine zPt ?_ | refine zPf ?_ | refine zE ?_ | refine zEA ?_ | refine zNot ?_ | refine zBd ?_ | refine zBs ?_ | refine zFn ?_ | refine zK1 ?_ | refine zK2 ?_)
          refine w_nil ?_
          exact ⟨_, x_wkd 3 ⟨rfl, trivial⟩ rfl (by repeat (first | exact ag_refl | refine ag_upd rfl ?_ | refine ag_at rfl rfl ?_))⟩
      intro b3
      repeat (first | refine zNil ?_ | refine zOp ?_ | refine zOpn ?_ | refine zNo ?_ | refine zNon ?_ | refine zUn ?_ | refine zUnn ?_ | refine zYes ?_ | refine zYesn ?_ | (refine zkL ?_; first | refine zL1 ?_ | refine zL2 ?_ | refine zL3 ?_ | refine zLp ?_) | refine zM ?_ | (refine zkF ?_; first | refine zF1 ?_ | refine zF2 ?_ | refine zF3 ?_) | refine zA ?_ | (refine zkB ?_; first | refine zC5 ?_ | refine zC6 ?_ | refine zC1 ?_ | refine zC2 ?_ | refine zC3 ?_ | refine zC4 ?_ | refine zS5 ?_ | refine zS6 ?_ | refine zS1 ?_ | refine zS2 ?_ | refine zS3 ?_ | refine zS4 ?_ | refine zInc ?_ | refine zQ1 ?_ | refine zQ2 ?_ | refine zQ3 ?_ | refine zQ4 ?_ | refine zQ5 ?_ | refine zQ6 ?_) | (refine zkI ?_; first | refine zN1 (fun hlen => ?_) | refine zN2 (fun hlen => ?_) | refine zN3 ?_ | refine zN4 ?_ | refine zAp (fun _ => ?_)) | refine zS ?_ | refine zAl (fun _ => ?_) | refine zBx (fun _ => ?_) | refine zPt ?_ | refine zPf ?_ | refine zE ?_ | refine zEA ?_ | refine zNot ?_ | refine zBd ?_ | refine zBs ?_ | refine zFn ?_ | refine zK1 ?_ | refine zK2 ?_ | refine ac_seq ?_ | refine ac_block ?_ | refine ac_region ?_ | refine ac_skip ?_ | refine ac_exit ?_ | refine ac_ret ?_ | refine zT ?_ | refine zF ?_)
      refine lo_sub rfl rfl hdn ?_
      repeat (first | refine zNil ?_ | refine zOp ?_ | refine zOpn ?_ | refine zNo ?_ | refine zNon ?_ | refine zUn ?_ | refine zUnn ?_ | refine zYes ?_ | refine zYesn ?_ | (refine zkL ?_; first | refine zL1 ?_ | refine zL2 ?_ | refine zL3 ?_ | refine zLp ?_) | refine zM ?_ | (refine zkF ?_; first | refine zF1 ?_ | refine zF2 ?_ | refine zF3 ?_) | refine zA ?_ | (refine zkB ?_; first | refine zC5 ?_ | refine zC6 ?_ | refine zC1 ?_ | refine zC2 ?_ | refine zC3 ?_ | refine zC4 ?_ | refine zS5 ?_ | refine zS6 ?_ | refine zS1 ?_ | refine zS2 ?_ | refine zS3 ?_ | refine zS4 ?_ | refine zInc ?_ | refine zQ1 ?_ | refine zQ2 ?_ | refine zQ3 ?_ | refine zQ4 ?_ | refine zQ5 ?_ | refine zQ6 ?_) | (refine zkI ?_; first | refine zN1 (fun hlen => ?_) | refine zN2 (fun hlen => ?_) | refine zN3 ?_ | refine zN4 ?_ | refine zAp (fun _ => ?_)) | refine zS ?_ | refine zAl (fun _ => ?_) | refine zBx (fun _ => ?_) | refine zPt ?_ | refine zPf ?_ | refine zE ?_ | refine zEA ?_ | refine zNot ?_ | refine zBd ?_ | refine zBs ?_ | refine zFn ?_ | refine zK1 ?_ | refine zK2 ?_ | refine ac_seq ?_ | refine ac_block ?_ | refine ac_region ?_ | refine ac_skip ?_ | refine ac_exit ?_ | refine ac_ret ?_ | refine zT ?_ | refine zF ?_)
      refine zG ?_
      exact ⟨re_cls (by repeat (first | exact rzs_nil | apply rzs_cons | exact rz_c | exact rz_nil rfl | apply rz_agg | exact rz_own rfl | apply rz_fn | exact rz_ptr rfl | apply rz_tup)), rfl⟩
end Go.Proofs.Ythgackidonocpaa
namespace Go.Proofs.Ythgackidonocpaa
open Go.RowKit
def lfB (c : Nat) (m : Int) : Blk := .box c 3 [.c (.lit (.int .i64 m))]
def Takes2 (b c : Nat) (t : T) (p : TS × Int) (r : AV) (hs : List Blk) : Prop := r = .c t ∧ hs = [tkB b p.1, lfB c p.2]
set_option maxRecDepth 100000 in
set_option maxHeartbeats 4000000 in
theorem tvalue_ag (b c : Nat) : ∀ (d : Nat) (s : TS) (m : Int), d ≤ 40 → 0 ≤ m → m ≤ 400 → AG Try.prog 165 [.ptr 0 b 0, .ptr 1 c 0, .c (.lit (.int .i64 (d : Int)))] [tkB b s, lfB c m] (Takes2 b c (tVal d s m).1.t (tVal d s m).2) := by
  intro d
  induction d with
  | zero =>
    intro s m hd hm hm'
    obtain ⟨l, ok⟩ := s
    refine AG.re (R := fun r hs => Re r (.c V.zero.t) ∧ hs = [tkB b (TS.mk l ok).fail, lfB c (m - 1)]) ?_ (fun r hs h => ⟨_, h.1, rfl, h.2⟩)
    refine ag_enter 2 tok Try.func165 Try.ntmps165 Try.results165 rfl (by kernel_rfl) rfl fun F => ?_
    cases d1 : decide (m - 1 < 0)
    · repeat (first | refine zNil ?_ | refine zOp ?_ | refine zOpn ?_ | refine zNo ?_ | refine zNon ?_ | refine zUn ?_ | refine zUnn ?_ | refine zYes ?_ | refine zYesn ?_ | (refine zkL ?_; first | refine zL1 ?_ | refine zL2 ?_ | refine zL3 ?_ | refine zLp ?_) | refine zM ?_ | (refine zkF ?_; first | refine zF1 ?_ | refine zF2 ?_ | refine zF3 ?_) | refine zA ?_ | (refine zkB ?_; first | refine zC5 ?_ | refine zC6 ?_ | refine zC1 ?_ | refine zC2 ?_ | refine zC3 ?_ | refine zC4 ?_ | refine zS5 ?_ | refine zS6 ?_ | refine zS1 ?_ | refine zS2 ?_ | refine zS3 ?_ | refine zS4 ?_ | refine zInc ?_ | refine zQ1 ?_ | refine zQ2 ?_ | refine zQ3 ?_ | refine zQ4 ?_ | refine zQ5 ?_ | refine zQ6 ?_) | (refine zkI ?_; first | refine zN1 (fun hlen => ?_) | refine zN2 (fun hlen => ?_) | refine zN3 ?_ | refine zN4 ?_ | refine zAp (fun _ => ?_)) | refine zS ?_ | refine zAl (fun _ => ?_) | refine zBx (fun _ => ?_) | refine zPt ?_ | refine zPf ?_ | refine zE ?_ | refine zEA ?_ | refine zNot ?_ | refine zBd ?_ | refine zBs ?_ | refine zFn ?_ | refine zK1 ?_ | refine zK2 ?_ | refine ac_seq ?_ | refine ac_block ?_ | refine ac_region ?_ | refine ac_skip ?_ | refine ac_exit ?_ | refine ac_ret ?_ | refine zT ?_ | refine zF ?_)
      refine zSub ?_
      repeat (first | refine zNil ?_ | refine zOp ?_ | refine zOpn ?_ | refine zNo ?_ | refine zNon ?_ | refine zUn ?_ | refine zUnn ?_ | refine zYes ?_ | refine zYesn ?_ | (refine zkL ?_; first | refine zL1 ?_ | refine zL2 ?_ | refine zL3 ?_ | refine zLp ?_) | refine zM ?_ | (refine zkF ?_; first | refine zF1 ?_ | refine zF2 ?_ | refine zF3 ?_) | refine zA ?_ | (refine zkB ?_; first | refine zC5 ?_ | refine zC6 ?_ | refine zC1 ?_ | refine zC2 ?_ | refine zC3 ?_ | refine zC4 ?_ | refine zS5 ?_ | refine zS6 ?_ | refine zS1 ?_ | refine zS2 ?_ | refine zS3 ?_ | refine zS4 ?_ | refine zInc ?_ | refine zQ1 ?_ | refine zQ2 ?_ | refine zQ3 ?_ | refine zQ4 ?_ | refine zQ5 ?_ | refine zQ6 ?_) | (refine zkI ?_; first | refine zN1 (fun hlen => ?_) | refine zN2 (fun hlen => ?_) | refine zN3 ?_ | refine zN4 ?_ | refine zAp (fun _ => ?_)) | refine zS ?_ | refine zAl (fun _ => ?_) | refine zBx (fun _ => ?_) | refine zPt ?_ | refine zPf ?_ | refine zE ?_ | refine zEA ?_ | refine zNot ?_ | refine zBd ?_ | refine zBs ?_ | refine zFn ?_ | refine zK1 ?_ | refine zK2 ?_ | refine ac_seq ?_ | refine ac_block ?_ | refine ac_region ?_ | refine ac_skip ?_ | refine ac_exit ?_ | refine ac_ret ?_ | refine zT ?_ | refine zF ?_)
      refine zG ?_
      exact ⟨re_cls (by repeat (first | exact rzs_nil | apply rzs_cons | exact rz_c | exact rz_nil rfl | apply rz_agg | exact rz_own rfl | apply rz_fn | exact rz_ptr rfl | apply rz_tup)), rfl⟩
    · repeat (first | refine zNil ?_ | refine zOp ?_ | refine zOpn ?_ | refine zNo ?_ | refine zNon ?_ | refine zUn ?_ | refine zUnn ?_ | refine zYes ?_ | refine zYesn ?_ | (refine zkL ?_; first | refine zL1 ?_ | refine zL2 ?_ | refine zL3 ?_ | refine zLp ?_) | refine zM ?_ | (refine zkF ?_; first | refine zF1 ?_ | refine zF2 ?_ | refine zF3 ?_) | refine zA ?_ | (refine zkB ?_; first | refine zC5 ?_ | refine zC6 ?_ | refine zC1 ?_ | refine zC2 ?_ | refine zC3 ?_ | refine zC4 ?_ | refine zS5 ?_ | refine zS6 ?_ | refine zS1 ?_ | refine zS2 ?_ | refine zS3 ?_ | refine zS4 ?_ | refine zInc ?_ | refine zQ1 ?_ | refine zQ2 ?_ | refine zQ3 ?_ | refine zQ4 ?_ | refine zQ5 ?_ | refine zQ6 ?_) | (refine zkI ?_; first | refine zN1 (fun hlen => ?_) | refine zN2 (fun hlen => ?_) | refine zN3 ?_ | refine zN4 ?_ | refine zAp (fun _ => ?_)) | refine zS ?_ | refine zAl (fun _ => ?_) | refine zBx (fun _ => ?_) | refine zPt ?_ | refine zPf ?_ | refine zE ?_ | refine zEA ?_ | refine zNot ?_ | refine zBd ?_ | refine zBs ?_ | refine zFn ?_ | refine zK1 ?_ | refine zK2 ?_ | refine ac_seq ?_ | refine ac_block ?_ | refine ac_region ?_ | refine ac_skip ?_ | refine ac_exit ?_ | refine ac_ret ?_ | refine zT ?_ | refine zF ?_)
      refine zSub ?_
      repeat (first | refine zNil ?_ | refine zOp ?_ | refine zOpn ?_ | refine zNo ?_ | refine zNon ?_ | refine zUn ?_ | refine zUnn ?_ | refine zYes ?_ | refine zYesn ?_ | (refine zkL ?_; first | refine zL1 ?_ | refine zL2 ?_ | refine zL3 ?_ | refine zLp ?_) | refine zM ?_ | (refine zkF ?_; first | refine zF1 ?_ | refine zF2 ?_ | refine zF3 ?_) | refine zA ?_ | (refine zkB ?_; first | refine zC5 ?_ | refine zC6 ?_ | refine zC1 ?_ | refine zC2 ?_ | refine zC3 ?_ | refine zC4 ?_ | refine zS5 ?_ | refine zS6 ?_ | refine zS1 ?_ | refine zS2 ?_ | refine zS3 ?_ | refine zS4 ?_ | refine zInc ?_ | refine zQ1 ?_ | refine zQ2 ?_ | refine zQ3 ?_ | refine zQ4 ?_ | refine zQ5 ?_ | refine zQ6 ?_) | (refine zkI ?_; first | refine zN1 (fun hlen => ?_) | refine zN2 (fun hlen => ?_) | refine zN3 ?_ | refine zN4 ?_ | refine zAp (fun _ => ?_)) | refine zS ?_ | refine zAl (fun _ => ?_) | refine zBx (fun _ => ?_) | refine zPt ?_ | refine zPf ?_ | refine zE ?_ | refine zEA ?_ | refine zNot ?_ | refine zBd ?_ | refine zBs ?_ | refine zFn ?_ | refine zK1 ?_ | refine zK2 ?_ | refine ac_seq ?_ | refine ac_block ?_ | refine ac_region ?_ | refine ac_skip ?_ | refine ac_exit ?_ | refine ac_ret ?_ | refine zT ?_ | refine zF ?_)
      refine zG ?_
      exact ⟨re_cls (by repeat (first | exact rzs_nil | apply rzs_cons | exact rz_c | exact rz_nil rfl | apply rz_agg | exact rz_own rfl | apply rz_fn | exact rz_ptr rfl | apply rz_tup)), rfl⟩
  | succ d ih =>
    intro s m hd hm hm'
    have e1 : decide (((d + 1 : Nat) : Int) < 1) = false := decide_eq_false (by omega)
    rw [tVal]
    by_cases h0 : m - 1 < 0
    · rw [if_pos h0]
      have d1 : decide (m - 1 < 0) = true := decide_eq_true h0
      obtain ⟨l, ok⟩ := s
      refine AG.re (R := fun r hs => Re r (.c V.zero.t) ∧ hs = [tkB b (TS.mk l ok).fail, lfB c (m - 1)]) ?_ (fun r hs h => ⟨_, h.1, rfl, h.2⟩)
      refine ag_enter 2 tok Try.func165 Try.ntmps165 Try.results165 rfl (by kernel_rfl) rfl fun F => ?_
      repeat (first | refine zNil ?_ | refine zOp ?_ | refine zOpn ?_ | refine zNo ?_ | refine zNon ?_ | refine zUn ?_ | refine zUnn ?_ | refine zYes ?_ | refine zYesn ?_ | (refine zkL ?_; first | refine zL1 ?_ | refine zL2 ?_ | refine zL3 ?_ | refine zLp ?_) | refine zM ?_ | (refine zkF ?_; first | refine zF1 ?_ | refine zF2 ?_ | refine zF3 ?_) | refine zA ?_ | (refine zkB ?_; first | refine zC5 ?_ | refine zC6 ?_ | refine zC1 ?_ | refine zC2 ?_ | refine zC3 ?_ | refine zC4 ?_ | refine zS5 ?_ | refine zS6 ?_ | refine zS1 ?_ | refine zS2 ?_ | refine zS3 ?_ | refine zS4 ?_ | refine zInc ?_ | refine zQ1 ?_ | refine zQ2 ?_ | refine zQ3 ?_ | refine zQ4 ?_ | refine zQ5 ?_ | refine zQ6 ?_) | (refine zkI ?_; first | refine zN1 (fun hlen => ?_) | refine zN2 (fun hlen => ?_) | refine zN3 ?_ | refine zN4 ?_ | refine zAp (fun _ => ?_)) | refine zS ?_ | refine zAl (fun _ => ?_) | refine zBx (fun _ => ?_) | refine zPt ?_ | refine zPf ?_ | refine zE ?_ | refine zEA ?_ | refine zNot ?_ | refine zBd ?_ | refine zBs ?_ | refine zFn ?_ | refine zK1 ?_ | refine zK2 ?_ | refine ac_seq ?_ | refine ac_block ?_ | refine ac_region ?_ | refine ac_skip ?_ | refine ac_exit ?_ | refine ac_ret ?_ | refine zT ?_ | refine zF ?_)
      refine zSub ?_
      repeat (first | refine zNil ?_ | refine zOp ?_ | refine zOpn ?_ | refine zNo ?_ | refine zNon ?_ | refine zUn ?_ | refine zUnn ?_ | refine zYes ?_ | refine zYesn ?_ | (refine zkL ?_; first | refine zL1 ?_ | refine zL2 ?_ | refine zL3 ?_ | refine zLp ?_) | refine zM ?_ | (refine zkF ?_; first | refine zF1 ?_ | refine zF2 ?_ | refine zF3 ?_) | refine zA ?_ | (refine zkB ?_; first | refine zC5 ?_ | refine zC6 ?_ | refine zC1 ?_ | refine zC2 ?_ | refine zC3 ?_ | refine zC4 ?_ | refine zS5 ?_ | refine zS6 ?_ | refine zS1 ?_ | refine zS2 ?_ | refine zS3 ?_ | refine zS4 ?_ | refine zInc ?_ | refine zQ1 ?_ | refine zQ2 ?_ | refine zQ3 ?_ | refine zQ4 ?_ | refine zQ5 ?_ | refine zQ6 ?_) | (refine zkI ?_; first | refine zN1 (fun hlen => ?_) | refine zN2 (fun hlen => ?_) | refine zN3 ?_ | refine zN4 ?_ | refine zAp (fun _ => ?_)) | refine zS ?_ | refine zAl (fun _ => ?_) | refine zBx (fun _ => ?_) | refine zPt ?_ | refine zPf ?_ | refine zE ?_ | refine zEA ?_ | refine zNot ?_ | refine zBd ?_ | refine zBs ?_ | refine zFn ?_ | refine zK1 ?_ | refine zK2 ?_ | refine ac_seq ?_ | refine ac_block ?_ | refine ac_region ?_ | refine ac_skip ?_ | refine ac_exit ?_ | refine ac_ret ?_ | refine zT ?_ | refine zF ?_)
      refine zG ?_
      exact ⟨re_cls (by repeat (first | exact rzs_nil | apply rzs_cons | exact rz_c | exact rz_nil rfl | apply rz_agg | exact rz_own rfl | apply rz_fn | exact rz_ptr rfl | apply rz_tup)), rfl⟩
    · rw [if_neg h0]
      have d1 : decide (m - 1 < 0) = false := decide_eq_false h0
      by_cases hok : s.ok = false
      · rw [if_pos hok]
        obtain ⟨l, ok⟩ := s
        dsimp only at hok
        subst hok
        refine AG.re (R := fun r hs => Re r (.c V.zero.t) ∧ hs = [tkB b (TS.mk l false), lfB c (m - 1)]) ?_ (fun r hs h => ⟨_, h.1, rfl, h.2⟩)
        refine ag_enter 2 tok Try.func165 Try.ntmps165 Try.results165 rfl (by kernel_rfl) rfl fun F => ?_
        repeat (first | refine zNil ?_ | refine zOp ?_ | refine zOpn ?_ | refine zNo ?_ | refine zNon ?_ | refine zUn ?_ | refine zUnn ?_ | refine zYes ?_ | refine zYesn ?_ | (refine zkL ?_; first | refine zL1 ?_ | refine zL2 ?_ | refine zL3 ?_ | refine zLp ?_) | refine zM ?_ | (refine zkF ?_; first | refine zF1 ?_ | refine zF2 ?_ | refine zF3 ?_) | refine zA ?_ | (refine zkB ?_; first | refine zC5 ?_ | refine zC6 ?_ | refine zC1 ?_ | refine zC2 ?_ | refine zC3 ?_ | refine zC4 ?_ | refine zS5 ?_ | refine zS6 ?_ | refine zS1 ?_ | refine zS2 ?_ | refine zS3 ?_ | refine zS4 ?_ | refine zInc ?_ | refine zQ1 ?_ | refine zQ2 ?_ | refine zQ3 ?_ | refine zQ4 ?_ | refine zQ5 ?_ | refine zQ6 ?_) | (refine zkI ?_; first | refine zN1 (fun hlen => ?_) | refine zN2 (fun hlen => ?_) | refine zN3 ?_ | refine zN4 ?_ | refine zAp (fun _ => ?_)) | refine zS ?_ | refine zAl (fun _ => ?_) | refine zBx (fun _ => ?_) | refine zPt ?_ | refine zPf ?_ | refine zE ?_ | refine zEA ?_ | refine zNot ?_ | refine zBd ?_ | refine zBs ?_ | refine zFn ?_ | refine zK1 ?_ | refine zK2 ?_ | refine ac_seq ?_ | refine ac_block ?_ | refine ac_region ?_ | refine ac_skip ?_ | refine ac_exit ?_ | refine ac_ret ?_ | refine zT ?_ | refine zF ?_)
        refine zSub ?_
        repeat (first | refine zNil ?_ | refine zOp ?_ | refine zOpn ?_ | refine zNo ?_ | refine zNon ?_ | refine zUn ?_ | refine zUnn ?_ | refine zYes ?_ | refine zYesn ?_ | (refine zkL ?_; first | refine zL1 ?_ | refine zL2 ?_ | refine zL3 ?_ | refine zLp ?_) | refine zM ?_ | (refine zkF ?_; first | refine zF1 ?_ | refine zF2 ?_ | refine zF3 ?_) | refine zA ?_ | (refine zkB ?_; first | refine zC5 ?_ | refine zC6 ?_ | refine zC1 ?_ | refine zC2 ?_ | refine zC3 ?_ | refine zC4 ?_ | refine zS5 ?_ | refine zS6 ?_ | refine zS1 ?_ | refine zS2 ?_ | refine zS3 ?_ | refine zS4 ?_ | refine zInc ?_ | refine zQ1 ?_ | refine zQ2 ?_ | refine zQ3 ?_ | refine zQ4 ?_ | refine zQ5 ?_ | refine zQ6 ?_) | (refine zkI ?_; first | refine zN1 (fun hlen => ?_) | refine zN2 (fun hlen => ?_) | refine zN3 ?_ | refine zN4 ?_ | refine zAp (fun _ => ?_)) | refine zS ?_ | refine zAl (fun _ => ?_) | refine zBx (fun _ => ?_) | refine zPt ?_ | refine zPf ?_ | refine zE ?_ | refine zEA ?_ | refine zNot ?_ | refine zBd ?_ | refine zBs ?_ | refine zFn ?_ | refine zK1 ?_ | refine zK2 ?_ | refine ac_seq ?_ | refine ac_block ?_ | refine ac_region ?_ | refine ac_skip ?_ | refine ac_exit ?_ | refine ac_ret ?_ | refine zT ?_ | refine zF ?_)
        refine zG ?_
        exact ⟨re_cls (by repeat (first | exact rzs_nil | apply rzs_cons | exact rz_c | exact rz_nil rfl | apply rz_agg | exact rz_own rfl | apply rz_fn | exact rz_ptr rfl | apply rz_tup)), rfl⟩
      · rw [if_neg hok]
        have c1 := one_ag b s
        generalize tOne s = q1 at *
        obtain ⟨k, s1⟩ := q1
        dsimp only at c1 ⊢
        have c2 := tnum_ag b s1
        generalize tNum s1 = q2 at *
        obtain ⟨n, s2⟩ := q2
        dsimp only at c2 ⊢
        have c3 := ttext_ag b s2
        generalize tText s2 = q3 at *
        obtain ⟨t, s3⟩ := q3
        dsimp only at c3 ⊢
        have c4 := tnat_ag b s3
        have hn4 : (tNat s3).1 ≤ 9223372036854775807 := tNat_lt s3
        generalize tNat s3 = q4 at *
        obtain ⟨n0, s4⟩ := q4
        dsimp only at c4 hn4 ⊢
        have hfg := tVal_fair d
        obtain ⟨l, ok⟩ := s
        cases ok
        · simp at hok
        refine AG.re (R := fun r hs => Re r (.c (V.mk k n (bs t) (tLoop (tVal d) n0 s4 (m - 1)).1).t) ∧ hs = [tkB b (tLoop (tVal d) n0 s4 (m - 1)).2.1, lfB c (tLoop (tVal d) n0 s4 (m - 1)).2.2]) ?_ (fun r hs h => ⟨_, h.1, rfl, h.2⟩)
        refine ag_enter 2 tok Try.func165 Try.ntmps165 Try.results165 rfl (by kernel_rfl) rfl fun F => ?_
        repeat (first | refine zNil ?_ | refine zOp ?_ | refine zOpn ?_ | refine zNo ?_ | refine zNon ?_ | refine zUn ?_ | refine zUnn ?_ | refine zYes ?_ | refine zYesn ?_ | (refine zkL ?_; first | refine zL1 ?_ | refine zL2 ?_ | refine zL3 ?_ | refine zLp ?_) | refine zM ?_ | (refine zkF ?_; first | refine zF1 ?_ | refine zF2 ?_ | refine zF3 ?_) | refine zA ?_ | (refine zkB ?_; first | refine zC5 ?_ | refine zC6 ?_ | refine zC1 ?_ | refine zC2 ?_ | refine zC3 ?_ | refine zC4 ?_ | refine zS5 ?_ | refine zS6 ?_ | refine zS1 ?_ | refine zS2 ?_ | refine zS3 ?_ | refine zS4 ?_ | refine zInc ?_ | refine zQ1 ?_ | refine zQ2 ?_ | refine zQ3 ?_ | refine zQ4 ?_ | refine zQ5 ?_ | refine zQ6 ?_) | (refine zkI ?_; first | refine zN1 (fun hlen => ?_) | refine zN2 (fun hlen => ?_) | refine zN3 ?_ | refine zN4 ?_ | refine zAp (fun _ => ?_)) | refine zS ?_ | refine zAl (fun _ => ?_) | refine zBx (fun _ => ?_) | refine zPt ?_ | refine zPf ?_ | refine zE ?_ | refine zEA ?_ | refine zNot ?_ | refine zBd ?_ | refine zBs ?_ | refine zFn ?_ | refine zK1 ?_ | refine zK2 ?_ | refine ac_seq ?_ | refine ac_block ?_ | refine ac_region ?_ | refine ac_skip ?_ | refine ac_exit ?_ | refine ac_ret ?_ | refine zT ?_ | refine zF ?_)
        refine zSub ?_
        repeat (first | refine zNil ?_ | refine zOp ?_ | refine zOpn ?_ | refine zNo ?_ | refine zNon ?_ | refine zUn ?_ | refine zUnn ?_ | refine zYes ?_ | refine zYesn ?_ | (refine zkL ?_; first | refine zL1 ?_ | refine zL2 ?_ | refine zL3 ?_ | refine zLp ?_) | refine zM ?_ | (refine zkF ?_; first | refine zF1 ?_ | refine zF2 ?_ | refine zF3 ?_) | refine zA ?_ | (refine zkB ?_; first | refine zC5 ?_ | refine zC6 ?_ | refine zC1 ?_ | refine zC2 ?_ | refine zC3 ?_ | refine zC4 ?_ | refine zS5 ?_ | refine zS6 ?_ | refine zS1 ?_ | refine zS2 ?_ | refine zS3 ?_ | refine zS4 ?_ | refine zInc ?_ | refine zQ1 ?_ | refine zQ2 ?_ | refine zQ3 ?_ | refine zQ4 ?_ | refine zQ5 ?_ | refine zQ6 ?_) | (refine zkI ?_; first | refine zN1 (fun hlen => ?_) | refine zN2 (fun hlen => ?_) | refine zN3 ?_ | refine zN4 ?_ | refine zAp (fun _ => ?_)) | refine zS ?_ | refine zAl (fun _ => ?_) | refine zBx (fun _ => ?_) | refine zPt ?_ | refine zPf ?_ | refine zE ?_ | refine zEA ?_ | refine zNot ?_ | refine zBd ?_ | refine zBs ?_ | refine zFn ?_ | refine zK1 ?_ | refine zK2 ?_ | refine ac_seq ?_ | refine ac_block ?_ | refine ac_region ?_ | refine ac_skip ?_ | refine ac_exit ?_ | refine ac_ret ?_ | refine zT ?_ | refine zF ?_)
        refine zCallG [0] c1 ?_
        rintro _ _ ⟨rfl, rfl⟩
        refine ⟨_, _, re_refl, rfl, rfl, ?_⟩
        repeat (first | refine zNil ?_ | refine zOp ?_ | refine zOpn ?_ | refine zNo ?_ | refine zNon ?_ | refine zUn ?_ | refine zUnn ?_ | refine zYes ?_ | refine zYesn ?_ | (refine zkL ?_; first | refine zL1 ?_ | refine zL2 ?_ | refine zL3 ?_ | refine zLp ?_) | refine zM ?_ | (refine zkF ?_; first | refine zF1 ?_ | refine zF2 ?_ | refine zF3 ?_) | refine zA ?_ | (refine zkB ?_; first | refine zC5 ?_ | refine zC6 ?_ | refine zC1 ?_ | refine zC2 ?_ | refine zC3 ?_ | refine zC4 ?_ | refine zS5 ?_ | refine zS6 ?_ | refine zS1 ?_ | refine zS2 ?_ | refine zS3 ?_ | refine zS4 ?_ | refine zInc ?_ | refine zQ1 ?_ | refine zQ2 ?_ | refine zQ3 ?_ | refine zQ4 ?_ | refine zQ5 ?_ | refine zQ6 ?_) | (refine zkI ?_; first | refine zN1 (fun hlen => ?_) | refine zN2 (fun hlen => ?_) | refine zN3 ?_ | refine zN4 ?_ | refine zAp (fun _ => ?_)) | refine zS ?_ | refine zAl (fun _ => ?_) | refine zBx (fun _ => ?_) | refine zPt ?_ | refine zPf ?_ | refine zE ?_ | refine zEA ?_ | refine zNot ?_ | refine zBd ?_ | refine zBs ?_ | refine zFn ?_ | refine zK1 ?_ | refine zK2 ?_ | refine ac_seq ?_ | refine ac_block ?_ | refine ac_region ?_ | refine ac_skip ?_ | refine ac_exit ?_ | refine ac_ret ?_ | refine zT ?_ | refine zF ?_)
        refine zCallG [0] c2 ?_
        rintro _ _ ⟨rfl, rfl⟩
        refine ⟨_, _, re_refl, rfl, rfl, ?_⟩
        repeat (first | refine zNil ?_ | refine zOp ?_ | refine zOpn ?_ | refine zNo ?_ | refine zNon ?_ | refine zUn ?_ | refine zUnn ?_ | refine zYes ?_ | refine zYesn ?_ | (refine zkL ?_; first | refine zL1 ?_ | refine zL2 ?_ | refine zL3 ?_ | refine zLp ?_) | refine zM ?_ | (refine zkF ?_; first | refine zF1 ?_ | refine zF2 ?_ | refine zF3 ?_) | refine zA ?_ | (refine zkB ?_; first | refine zC5 ?_ | refine zC6 ?_ | refine zC1 ?_ | refine zC2 ?_ | refine zC3 ?_ | refine zC4 ?_ | refine zS5 ?_ | refine zS6 ?_ | refine zS1 ?_ | refine zS2 ?_ | refine zS3 ?_ | refine zS4 ?_ | refine zInc ?_ | refine zQ1 ?_ | refine zQ2 ?_ | refine zQ3 ?_ | refine zQ4 ?_ | refine zQ5 ?_ | refine zQ6 ?_) | (refine zkI ?_; first | refine zN1 (fun hlen => ?_) | refine zN2 (fun hlen => ?_) | refine zN3 ?_ | refine zN4 ?_ | refine zAp (fun _ => ?_)) | refine zS ?_ | refine zAl (fun _ => ?_) | refine zBx (fun _ => ?_) | refine zPt ?_ | refine zPf ?_ | refine zE ?_ | refine zEA ?_ | refine zNot ?_ | refine zBd ?_ | refine zBs ?_ | refine zFn ?_ | refine zK1 ?_ | refine zK2 ?_ | refine ac_seq ?_ | refine ac_block ?_ | refine ac_region ?_ | refine ac_skip ?_ | refine ac_exit ?_ | refine ac_ret ?_ | refine zT ?_ | refine zF ?_)
        refine zCallG [0] c3 ?_
        rintro _ _ ⟨rfl, rfl⟩
        refine ⟨_, _, re_refl, rfl, rfl, ?_⟩
        repeat (first | refine zNil ?_ | refine zOp ?_ | refine zOpn ?_ | refine zNo ?_ | refine zNon ?_ | refine zUn ?_ | refine zUnn ?_ | refine zYes ?_ | refine zYesn ?_ | (refine zkL ?_; first | refine zL1 ?_ | refine zL2 ?_ | refine zL3 ?_ | refine zLp ?_) | refine zM ?_ | (refine zkF ?_; first | refine zF1 ?_ | refine zF2 ?_ | refine zF3 ?_) | refine zA ?_ | (refine zkB ?_; first | refine zC5 ?_ | refine zC6 ?_ | refine zC1 ?_ | refine zC2 ?_ | refine zC3 ?_ | refine zC4 ?_ | refine zS5 ?_ | refine zS6 ?_ | refine zS1 ?_ | refine zS2 ?_ | refine zS3 ?_ | refine zS4 ?_ | refine zInc ?_ | refine zQ1 ?_ | refine zQ2 ?_ | refine zQ3 ?_ | refine zQ4 ?_ | refine zQ5 ?_ | refine zQ6 ?_) | (refine zkI ?_; first | refine zN1 (fun hlen => ?_) | refine zN2 (fun hlen => ?_) | refine zN3 ?_ | refine zN4 ?_ | refine zAp (fun _ => ?_)) | refine zS ?_ | refine zAl (fun _ => ?_) | refine zBx (fun _ => ?_) | refine zPt ?_ | refine zPf ?_ | refine zE ?_ | refine zEA ?_ | refine zNot ?_ | refine zBd ?_ | refine zBs ?_ | refine zFn ?_ | refine zK1 ?_ | refine zK2 ?_ | refine ac_seq ?_ | refine ac_block ?_ | refine ac_region ?_ | refine ac_skip ?_ | refine ac_exit ?_ | refine ac_ret ?_ | refine zT ?_ | refine zF ?_)
        refine zCallG [0] c4 ?_
        rintro _ _ ⟨rfl, rfl⟩
        refine ⟨_, _, re_refl, rfl, rfl, ?_⟩
        repeat (first | refine zNil ?_ | refine zOp ?_ | refine zOpn ?_ | refine zNo ?_ | refine zNon ?_ | refine zUn ?_ | refine zUnn ?_ | refine zYes ?_ | refine zYesn ?_ | (refine zkL ?_; first | refine zL1 ?_ | refine zL2 ?_ | refine zL3 ?_ | refine zLp ?_) | refine zM ?_ | (refine zkF ?_; first | refine zF1 ?_ | refine zF2 ?_ | refine zF3 ?_) | refine zA ?_ | (refine zkB ?_; first | refine zC5 ?_ | refine zC6 ?_ | refine zC1 ?_ | refine zC2 ?_ | refine zC3 ?_ | refine zC4 ?_ | refine zS5 ?_ | refine zS6 ?_ | refine zS1 ?_ | refine zS2 ?_ | refine zS3 ?_ | refine zS4 ?_ | refine zInc ?_ | refine zQ1 ?_ | refine zQ2 ?_ | refine zQ3 ?_ | refine zQ4 ?_ | refine zQ5 ?_ | refine zQ6 ?_) | (refine zkI ?_; first | refine zN1 (fun hlen => ?_) | refine zN2 (fun hlen => ?_) | refine zN3 ?_ | refine zN4 ?_ | refine zAp (fun _ => ?_)) | refine zS ?_ | refine zAl (fun _ => ?_) | refine zBx (fun _ => ?_) | refine zPt ?_ | refine zPf ?_ | refine zE ?_ | refine zEA ?_ | refine zNot ?_ | refine zBd ?_ | refine zBs ?_ | refine zFn ?_ | refine zK1 ?_ | refine zK2 ?_ | refine ac_seq ?_ | refine ac_block ?_ | refine ac_region ?_ | refine ac_skip ?_ | refine ac_exit ?_ | refine ac_ret ?_ | refine zT ?_ | refine zF ?_)
        rename_i b2 b3
        refine x_own_cell 3 3 24 4 rfl rfl rfl rfl rfl rfl ?_
        refine x_loop [8, 42, 43, 44, 45, 46, 47, 48, 49, 50, 51, 52, 53, 54, 55, 56, 57, 58, 59, 60, 61] (fun y : Nat × List V × Value × TS × Int => [(8, .c (.lit (.int .i64 (y.1 : Int))))]) (fun y => [tkB b y.2.2.2.1, lfB c y.2.2.2.2, .box b2 24 [.c (.lit (.int .i64 0)), .c (.lit (.int .i64 0)), .c (.lit (.string ⟨#[]⟩)), .c (.lit (.slice none 0 0))], .box b3 24 [.c (.lit (.int .i64 (k : Int))), .c (.lit (.int .i64 n)), .c (.lit (.string (bs t))), .own 4 y.2.2.1], .row y.2.2.1 24 4 y.2.1.length (V.all y.2.1)])
          (fun y => -1 ≤ y.2.2.2.2 ∧ (y.2.2.2.1.ok = true → 0 ≤ y.2.2.2.2) ∧ (V.sizes y.2.1 : Int) + y.2.2.2.2 ≤ m ∧ y.1 ≤ 9223372036854775807 ∧ (y.2.1 ++ (tLoop (tVal d) y.1 y.2.2.2.1 y.2.2.2.2).1, (tLoop (tVal d) y.1 y.2.2.2.1 y.2.2.2.2).2) = tLoop (tVal d) n0 s4 (m - 1)) (fun y => y.1) (n0, [], .slice none 0 0, s4, m - 1) ⟨by simp only; omega, fun _ => by simp only; omega, by simp only [V.sizes]; omega, hn4, by simp⟩ ⟨rfl, trivial⟩ rfl ?_
        rintro ⟨j, out, v, s', m'⟩ ⟨h1, h2, h3, h4, hinv⟩
        dsimp only at h1 h2 h3 h4 hinv ⊢
        have hol := V.len_sizes out
        cases j with
        | zero =>
          have d2 : decide ((0 : Int) < ((0 : Nat) : Int)) = false := rfl
          simp only [tLoop, List.append_nil] at hinv
          refine x_fzc 3 3 ?_
          repeat (first | refine zNil ?_ | refine zOp ?_ | refine zOpn ?_ | refine zNo ?_ | refine zNon ?_ | refine zUn ?_ | refine zUnn ?_ | refine zYes ?_ | refine zYesn ?_ | (refine zkL ?_; first | refine zL1 ?_ | refine zL2 ?_ | refine zL3 ?_ | refine zLp ?_) | refine zM ?_ | (refine zkF ?_; first | refine zF1 ?_ | refine zF2 ?_ | refine zF3 ?_) | refine zA ?_ | (refine zkB ?_; first | refine zC5 ?_ | refine zC6 ?_ | refine zC1 ?_ | refine zC2 ?_ | refine zC3 ?_ | refine zC4 ?_ | refine zS5 ?_ | refine zS6 ?_ | refine zS1 ?_ | refine zS2 ?_ | refine zS3 ?_ | refine zS4 ?_ | refine zInc ?_ | refine zQ1 ?_ | refine zQ2 ?_ | refine zQ3 ?_ | refine zQ4 ?_ | refine zQ5 ?_ | refine zQ6 ?_) | (refine zkI ?_; first | refine zN1 (fun hlen => ?_) | refine zN2 (fun hlen => ?_) | refine zN3 ?_ | refine zN4 ?_ | refine zAp (fun _ => ?_)) | refine zS ?_ | refine zAl (fun _ => ?_) | refine zBx (fun _ => ?_) | refine zPt ?_ | refine zPf ?_ | refine zE ?_ | refine zEA ?_ | refine zNot ?_ | refine zBd ?_ | refine zBs ?_ | refine zFn ?_ | refine zK1 ?_ | refine zK2 ?_ | refine ac_seq ?_ | refine ac_block ?_ | refine ac_region ?_ | refine ac_skip ?_ | refine ac_exit ?_ | refine ac_ret ?_ | refine zT ?_ | refine zF ?_)
          refine zG ?_
          rw [← hinv]
          exact ⟨re_cls (by repeat (first | exact rzs_nil | apply rzs_cons | exact rz_c | exact rz_nil rfl | apply rz_agg | exact rz_own rfl | apply rz_fn | exact rz_ptr rfl | apply rz_tup)), rfl⟩
        | succ j =>
          have d2 : decide ((0 : Int) < ((j + 1 : Nat) : Int)) = true := decide_eq_true (by omega)
          obtain ⟨l1, ok1⟩ := s'
          cases ok1
          · simp only [tLoop, Bool.false_eq_true, if_false, List.append_nil] at hinv
            refine x_fzc 3 3 ?_
            repeat (first | refine zNil ?_ | refine zOp ?_ | refine zOpn ?_ | refine zNo ?_ | refine zNon ?_ | refine zUn ?_ | refine zUnn ?_ | refine zYes ?_ | refine zYesn ?_ | (refine zkL ?_; first | refine zL1 ?_ | refine zL2 ?_ | refine zL3 ?_ | refine zLp ?_) | refine zM ?_ | (refine zkF ?_; first | refine zF1 ?_ | refine zF2 ?_ | refine zF3 ?_) | refine zA ?_ | (refine zkB ?_; first | refine zC5 ?_ | refine zC6 ?_ | refine zC1 ?_ | refine zC2 ?_ | refine zC3 ?_ | refine zC4 ?_ | refine zS5 ?_ | refine zS6 ?_ | refine zS1 ?_ | refine zS2 ?_ | refine zS3 ?_ | refine zS4 ?_ | refine zInc ?_ | refine zQ1 ?_ | refine zQ2 ?_ | refine zQ3 ?_ | refine zQ4 ?_ | refine zQ5 ?_ | refine zQ6 ?_) | (refine zkI ?_; first | refine zN1 (fun hlen => ?_) | refine zN2 (fun hlen => ?_) | refine zN3 ?_ | refine zN4 ?_ | refine zAp (fun _ => ?_)) | refine zS ?_ | refine zAl (fun _ => ?_) | refine zBx (fun _ => ?_) | refine zPt ?_ | refine zPf ?_ | refine zE ?_ | refine zEA ?_ | refine zNot ?_ | refine zBd ?_ | refine zBs ?_ | refine zFn ?_ | refine zK1 ?_ | refine zK2 ?_ | refine ac_seq ?_ | refine ac_block ?_ | refine ac_region ?_ | refine ac_skip ?_ | refine ac_exit ?_ | refine ac_ret ?_ | refine zT ?_ | refine zF ?_)
            refine zG ?_
            rw [← hinv]
            exact ⟨re_cls (by repeat (first | exact rzs_nil | apply rzs_cons | exact rz_c | exact rz_nil rfl | apply rz_agg | exact rz_own rfl | apply rz_fn | exact rz_ptr rfl | apply rz_tup)), rfl⟩
          · have hm0 := h2 rfl
            have hca := ih ⟨l1, true⟩ m' (by omega) hm0 (by omega)
            obtain ⟨-, g2, g3, g4, -⟩ := hfg.fair ⟨l1, true⟩ m' hm0
            simp only [tLoop, if_true] at hinv
            generalize tVal d ⟨l1, true⟩ m' = q at *
            obtain ⟨⟨kv, nv, tv, lv⟩, s2', m2⟩ := q
            dsimp only at hinv hca g2 g3 g4
            repeat (first | refine zNil ?_ | refine zOp ?_ | refine zOpn ?_ | refine zNo ?_ | refine zNon ?_ | refine zUn ?_ | refine zUnn ?_ | refine zYes ?_ | refine zYesn ?_ | (refine zkL ?_; first | refine zL1 ?_ | refine zL2 ?_ | refine zL3 ?_ | refine zLp ?_) | refine zM ?_ | (refine zkF ?_; first | refine zF1 ?_ | refine zF2 ?_ | refine zF3 ?_) | refine zA ?_ | (refine zkB ?_; first | refine zC5 ?_ | refine zC6 ?_ | refine zC1 ?_ | refine zC2 ?_ | refine zC3 ?_ | refine zC4 ?_ | refine zS5 ?_ | refine zS6 ?_ | refine zS1 ?_ | refine zS2 ?_ | refine zS3 ?_ | refine zS4 ?_ | refine zInc ?_ | refine zQ1 ?_ | refine zQ2 ?_ | refine zQ3 ?_ | refine zQ4 ?_ | refine zQ5 ?_ | refine zQ6 ?_) | (refine zkI ?_; first | refine zN1 (fun hlen => ?_) | refine zN2 (fun hlen => ?_) | refine zN3 ?_ | refine zN4 ?_ | refine zAp (fun _ => ?_)) | refine zS ?_ | refine zAl (fun _ => ?_) | refine zBx (fun _ => ?_) | refine zPt ?_ | refine zPf ?_ | refine zE ?_ | refine zEA ?_ | refine zNot ?_ | refine zBd ?_ | refine zBs ?_ | refine zFn ?_ | refine zK1 ?_ | refine zK2 ?_ | refine ac_seq ?_ | refine ac_block ?_ | refine ac_region ?_ | refine ac_skip ?_ | refine ac_exit ?_ | refine ac_ret ?_ | refine zT ?_ | refine zF ?_)
            refine ac_drawT [0, 2, 0, 0, 0, 0, 2, 0, 2, 0, 2] (.fork [0, 2, 3, 4, 5] 1 (.fin [6, 7, 8, 9, 10]) 6 (.fin [7, 1, 8, 9, 10])) (by kernel_rfl) (by kernel_rfl) ?_
            refine wt_fork ?_
            apply w_p; (focus exact rfl); (focus exact rfl); focus (intro _; (first | refine zF1 ?_ | refine zF2 ?_ | refine zF3 ?_); exact det_refl)
            apply w_p; (focus exact rfl); (focus exact rfl); focus (intro _; (refine zM ?_); exact det_refl)
            apply w_p; (focus exact rfl); (focus exact rfl); focus (intro _; (refine zM ?_); exact det_refl)
            apply w_p; (focus exact rfl); (focus exact rfl); focus (intro _; (refine zM ?_); exact det_refl)
            apply w_p; (focus exact rfl); (focus exact rfl); focus (intro _; (refine lo_sub rfl rfl (r := (d : Int)) (by rw [IntWalk.i64_in _ (by omega)]; omega) ?_); exact det_refl)
            refine w_nil ?_
            refine ⟨?_, ?_⟩
            · apply w_l; (focus exact rfl); (focus exact rfl); (first | refine zL1 ?_ | refine zL2 ?_ | refine zL3 ?_ | refine zLp ?_)
              refine w_nil ?_
              refine wt_fin ?_
              apply w_l; (focus exact rfl); (focus exact rfl); (refine zCallG [0, 1] hca ?_; rintro _ _ ⟨rfl, rfl⟩; refine ⟨_, _, re_refl, rfl, rfl, ?_⟩)
              apply w_p; (focus exact rfl); (focus exact rfl); focus (intro _; (refine zBs ?_); exact det_refl)
              apply w_l; (focus exact rfl); (focus exact rfl); (first | (refine zkL ?_; first | refine zL1 ?_ | refine zL2 ?_ | refine zL3 ?_ | refine zLp ?_) | refine zM ?_ | (refine zkF ?_; first | refine zF1 ?_ | refine zF2 ?_ | refine zF3 ?_) | refine zA ?_ | (refine zkB ?_; first | refine zC5 ?_ | refine zC6 ?_ | refine zC1 ?_ | refine zC2 ?_ | refine zC3 ?_ | refine zC4 ?_ | refine zS5 ?_ | refine zS6 ?_ | refine zS1 ?_ | refine zS2 ?_ | refine zS3 ?_ | refine zS4 ?_ | refine zInc ?_ | refine zQ1 ?_ | refine zQ2 ?_ | refine zQ3 ?_ | refine zQ4 ?_ | refine zQ5 ?_ | refine zQ6 ?_) | (refine zkI ?_; first | refine zN1 (fun hlen => ?_) | refine zN2 (fun hlen => ?_) | refine zN3 ?_ | refine zN4 ?_ | refine zAp (fun _ => ?_)) | refine zS ?_ | refine zAl (fun _ => ?_) | refine zBx (fun _ => ?_) | refine zPt ?_ | refine zPf ?_ | refine zE ?_ | refine zEA ?_ | refine zNot ?_ | refine zBd ?_ | refine zBs ?_ | refine zFn ?_ | refine zK1 ?_ | refine zK2 ?_)
              apply w_p; (focus exact rfl); (focus exact rfl); focus (intro _; (first | refine zF1 ?_ | refine zF2 ?_ | refine zF3 ?_); exact det_refl)
              apply w_l; (focus exact rfl); (focus exact rfl); (first | (refine zkL ?_; first | refine zL1 ?_ | refine zL2 ?_ | refine zL3 ?_ | refine zLp ?_) | refine zM ?_ | (refine zkF ?_; first | refine zF1 ?_ | refine zF2 ?_ | refine zF3 ?_) | refine zA ?_ | (refine zkB ?_; first | refine zC5 ?_ | refine zC6 ?_ | refine zC1 ?_ | refine zC2 ?_ | refine zC3 ?_ | refine zC4 ?_ | refine zS5 ?_ | refine zS6 ?_ | refine zS1 ?_ | refine zS2 ?_ | refine zS3 ?_ | refine zS4 ?_ | refine zInc ?_ | refine zQ1 ?_ | refine zQ2 ?_ | refine zQ3 ?_ | refine zQ4 ?_ | refine zQ5 ?_ | refine zQ6 ?_) | (refine zkI ?_; first | refine zN1 (fun hlen => ?_) | refine zN2 (fun hlen => ?_) | refine zN3 ?_ | refine zN4 ?_ | refine zAp (fun _ => ?_)) | refine zS ?_ | refine zAl (fun _ => ?_) | refine zBx (fun _ => ?_) | refine zPt ?_ | refine zPf ?_ | refine zE ?_ | refine zEA ?_ | refine zNot ?_ | refine zBd ?_ | refine zBs ?_ | refine zFn ?_ | refine zK1 ?_ | refine zK2 ?_)
              refine w_nil ?_
              repeat (first | refine zNil ?_ | refine zOp ?_ | refine zOpn ?_ | refine zNo ?_ | refine zNon ?_ | refine zUn ?_ | refine zUnn ?_ | refine zYes ?_ | refine zYesn ?_ | (refine zkL ?_; first | refine zL1 ?_ | refine zL2 ?_ | refine zL3 ?_ | refine zLp ?_) | refine zM ?_ | (refine zkF ?_; first | refine zF1 ?_ | refine zF2 ?_ | refine zF3 ?_) | refine zA ?_ | (refine zkB ?_; first | refine zC5 ?_ | refine zC6 ?_ | refine zC1 ?_ | refine zC2 ?_ | refine zC3 ?_ | refine zC4 ?_ | refine zS5 ?_ | refine zS6 ?_ | refine zS1 ?_ | refine zS2 ?_ | refine zS3 ?_ | refine zS4 ?_ | refine zInc ?_ | refine zQ1 ?_ | refine zQ2 ?_ | refine zQ3 ?_ | refine zQ4 ?_ | refine zQ5 ?_ | refine zQ6 ?_) | (refine zkI ?_; first | refine zN1 (fun hlen => ?_) | refine zN2 (fun hlen => ?_) | refine zN3 ?_ | refine zN4 ?_ | refine zAp (fun _ => ?_)) | refine zS ?_ | refine zAl (fun _ => ?_) | refine zBx (fun _ => ?_) | refine zPt ?_ | refine zPf ?_ | refine zE ?_ | refine zEA ?_ | refine zNot ?_ | refine zBd ?_ | refine zBs ?_ | refine zFn ?_ | refine zK1 ?_ | refine zK2 ?_ | refine ac_seq ?_ | refine ac_block ?_ | refine ac_region ?_ | refine ac_skip ?_ | refine ac_exit ?_ | refine ac_ret ?_ | refine zT ?_ | refine zF ?_)
              refine lo_sub rfl rfl (r := (j : Int)) (by rw [IntWalk.i64_in _ (by omega)]; omega) ?_
              repeat (first | refine zNil ?_ | refine zOp ?_ | refine zOpn ?_ | refine zNo ?_ | refine zNon ?_ | refine zUn ?_ | refine zUnn ?_ | refine zYes ?_ | refine zYesn ?_ | (refine zkL ?_; first | refine zL1 ?_ | refine zL2 ?_ | refine zL3 ?_ | refine zLp ?_) | refine zM ?_ | (refine zkF ?_; first | refine zF1 ?_ | refine zF2 ?_ | refine zF3 ?_) | refine zA ?_ | (refine zkB ?_; first | refine zC5 ?_ | refine zC6 ?_ | refine zC1 ?_ | refine zC2 ?_ | refine zC3 ?_ | refine zC4 ?_ | refine zS5 ?_ | refine zS6 ?_ | refine zS1 ?_ | refine zS2 ?_ | refine zS3 ?_ | refine zS4 ?_ | refine zInc ?_ | refine zQ1 ?_ | refine zQ2 ?_ | refine zQ3 ?_ | refine zQ4 ?_ | refine zQ5 ?_ | refine zQ6 ?_) | (refine zkI ?_; first | refine zN1 (fun hlen => ?_) | refine zN2 (fun hlen => ?_) | refine zN3 ?_ | refine zN4 ?_ | refine zAp (fun _ => ?_)) | refine zS ?_ | refine zAl (fun _ => ?_) | refine zBx (fun _ => ?_) | refine zPt ?_ | refine zPf ?_ | refine zE ?_ | refine zEA ?_ | refine zNot ?_ | refine zBd ?_ | refine zBs ?_ | refine zFn ?_ | refine zK1 ?_ | refine zK2 ?_ | refine ac_seq ?_ | refine ac_block ?_ | refine ac_region ?_ | refine ac_skip ?_ | refine ac_exit ?_ | refine ac_ret ?_ | refine zT ?_ | refine zF ?_)
              exact ⟨(j, out ++ [.mk kv nv tv lv], _, s2', m2), ⟨g3, g4, by simp only [V.sizes_app, V.sizes]; omega, by simp only; omega, by simpa using hinv⟩, by simp only; omega, x_wkd 5 ⟨rfl, trivial⟩ (by simp only [V.all_app, V.all_one, List.length_append, List.length_cons, List.length_nil]; rfl) (by repeat (first | exact ag_refl | refine ag_upd rfl ?_ | refine ag_at rfl rfl ?_))⟩
            · apply w_l; (focus exact rfl); (focus exact rfl); (refine zCallG [0, 1] hca ?_; rintro _ _ ⟨rfl, rfl⟩; refine ⟨_, _, re_refl, rfl, rfl, ?_⟩)
              refine w_nil ?_
              refine wt_fin ?_
              apply w_p; (focus exact rfl); (focus exact rfl); focus (intro _; (refine zBs ?_); exact det_refl)
              apply w_l; (focus exact rfl); (focus exact rfl); (first | refine zL1 ?_ | refine zL2 ?_ | refine zL3 ?_ | refine zLp ?_)
              apply w_l; (focus exact rfl); (focus exact rfl); (first | (refine zkL ?_; first | refine zL1 ?_ | refine zL2 ?_ | refine zL3 ?_ | refine zLp ?_) | refine zM ?_ | (refine zkF ?_; first | refine zF1 ?_ | refine zF2 ?_ | refine zF3 ?_) | refine zA ?_ | (refine zkB ?_; first | refine zC5 ?_ | refine zC6 ?_ | refine zC1 ?_ | refine zC2 ?_ | refine zC3 ?_ | refine zC4 ?_ | refine zS5 ?_ | refine zS6 ?_ | refine zS1 ?_ | refine zS2 ?_ | refine zS3 ?_ | refine zS4 ?_ | refine zInc ?_ | refine zQ1 ?_ | refine zQ2 ?_ | refine zQ3 ?_ | refine zQ4 ?_ | refine zQ5 ?_ | refine zQ6 ?_) | (refine zkI ?_; first | refine zN1 (fun hlen => ?_) | refine zN2 (fun hlen => ?_) | refine zN3 ?_ | refine zN4 ?_ | refine zAp (fun _ => ?_)) | refine zS ?_ | refine zAl (fun _ => ?_) | refine zBx (fun _ => ?_) | refine zPt ?_ | refine zPf ?_ | refine zE ?_ | refine zEA ?_ | refine zNot ?_ | refine zBd ?_ | refine zBs ?_ | refine zFn ?_ | refine zK1 ?_ | refine zK2 ?_)
              apply w_p; (focus exact rfl); (focus exact rfl); focus (intro _; (first | refine zF1 ?_ | refine zF2 ?_ | refine zF3 ?_); exact det_refl)
              apply w_l; (focus exact rfl); (focus exact rfl); (first | (refine zkL ?_; first | refine zL1 ?_ | refine zL2 ?_ | refine zL3 ?_ | refine zLp ?_) | refine zM ?_ | (refine zkF ?_; first | refine zF1 ?_ | refine zF2 ?_ | refine zF3 ?_) | refine zA ?_ | (refine zkB ?_; first | refine zC5 ?_ | refine zC6 ?_ | refine zC1 ?_ | refine zC2 ?_ | refine zC3 ?_ | refine zC4 ?_ | refine zS5 ?_ | refine zS6 ?_ | refine zS1 ?_ | refine zS2 ?_ | refine zS3 ?_ | refine zS4 ?_ | refine zInc ?_ | refine zQ1 ?_ | refine zQ2 ?_ | refine zQ3 ?_ | refine zQ4 ?_ | refine zQ5 ?_ | refine zQ6 ?_) | (refine zkI ?_; first | refine zN1 (fun hlen => ?_) | refine zN2 (fun hlen => ?_) | refine zN3 ?_ | refine zN4 ?_ | refine zAp (fun _ => ?_)) | refine zS ?_ | refine zAl (fun _ => ?_) | refine zBx (fun _ => ?_) | refine zPt ?_ | refine zPf ?_ | refine zE ?_ | refine zEA ?_ | refine zNot ?_ | refine zBd ?_ | refine zBs ?_ | refine zFn ?_ | refine zK1 ?_ | refine zK2 ?_)
              refine w_nil ?_
              repeat (first | refine zNil ?_ | refine zOp ?_ | refine zOpn ?_ | refine zNo ?_ | refine zNon ?_ | refine zUn ?_ | refine zUnn ?_ | refine zYes ?_ | refine zYesn ?_ | (refine zkL ?_; first | refine zL1 ?_ | refine zL2 ?_ | refine zL3 ?_ | refine zLp ?_) | refine zM ?_ | (refine zkF ?_; first | refine zF1 ?_ | refine zF2 ?_ | refine zF3 ?_) | refine zA ?_ | (refine zkB ?_; first | refine zC5 ?_ | refine zC6 ?_ | refine zC1 ?_ | refine zC2 ?_ | refine zC3 ?_ | refine zC4 ?_ | refine zS5 ?_ | refine zS6 ?_ | refine zS1 ?_ | refine zS2 ?_ | refine zS3 ?_ | refine zS4 ?_ | refine zInc ?_ | refine zQ1 ?_ | refine zQ2 ?_ | refine zQ3 ?_ | refine zQ4 ?_ | refine zQ5 ?_ | refine zQ6 ?_) | (refine zkI ?_; first | refine zN1 (fun hlen => ?_) | refine zN2 (fun hlen => ?_) | refine zN3 ?_ | refine zN4 ?_ | refine zAp (fun _ => ?_)) | refine zS ?_ | refine zAl (fun _ => ?_) | refine zBx (fun _ => ?_) | refine zPt ?_ | refine zPf ?_ | refine zE ?_ | refine zEA ?_ | refine zNot ?_ | refine zBd ?_ | refine zBs ?_ | refine zFn ?_ | refine zK1 ?_ | refine zK2 ?_ | refine ac_seq ?_ | refine ac_block ?_ | refine ac_region ?_ | refine ac_skip ?_ | refine ac_exit ?_ | refine ac_ret ?_ | refine zT ?_ | refine zF ?_)
              refine lo_sub rfl rfl (r := (j : Int)) (by rw [IntWalk.i64_in _ (by omega)]; omega) ?_
              repeat (first | refine zNil ?_ | refine zOp ?_ | refine zOpn ?_ | refine zNo ?_ | refine zNon ?_ | refine zUn ?_ | refine zUnn ?_ | refine zYes ?_ | refine zYesn ?_ | (refine zkL ?_; first | refine zL1 ?_ | refine zL2 ?_ | refine zL3 ?_ | refine zLp ?_) | refine zM ?_ | (refine zkF ?_; first | refine zF1 ?_ | refine zF2 ?_ | refine zF3 ?_) | refine zA ?_ | (refine zkB ?_; first | refine zC5 ?_ | refine zC6 ?_ | refine zC1 ?_ | refine zC2 ?_ | refine zC3 ?_ | refine zC4 ?_ | refine zS5 ?_ | refine zS6 ?_ | refine zS1 ?_ | refine zS2 ?_ | refine zS3 ?_ | refine zS4 ?_ | refine zInc ?_ | refine zQ1 ?_ | refine zQ2 ?_ | refine zQ3 ?_ | refine zQ4 ?_ | refine zQ5 ?_ | refine zQ6 ?_) | (refine zkI ?_; first | refine zN1 (fun hlen => ?_) | refine zN2 (fun hlen => ?_) | refine zN3 ?_ | refine zN4 ?_ | refine zAp (fun _ => ?_)) | refine zS ?_ | refine zAl (fun _ => ?_) | refine zBx (fun _ => ?_) | refine zPt ?_ | refine zPf ?_ | refine zE ?_ | refine zEA ?_ | refine zNot ?_ | refine zBd ?_ | refine zBs ?_ | refine zFn ?_ | refine zK1 ?_ | refine zK2 ?_ | refine ac_seq ?_ | refine ac_block ?_ | refine ac_region ?_ | refine ac_skip ?_ | refine ac_exit ?_ | refine ac_ret ?_ | refine zT ?_ | refine zF ?_)
              exact ⟨(j, out ++ [.mk kv nv tv lv], _, s2', m2), ⟨g3, g4, by simp only [V.sizes_app, V.sizes]; omega, by simp only; omega, by simpa using hinv⟩, by simp only; omega, x_wkd 5 ⟨rfl, trivial⟩ (by simp only [V.all_app, V.all_one, List.length_append, List.length_cons, List.length_nil]; rfl) (by repeat (first | exact ag_refl | refine ag_upd rfl ?_ | refine ag_at rfl rfl ?_))⟩
end Go.Proofs.Ythgackidonocpaa
namespace Go.Proofs.Ythgackidonocpaa
open Go.RowKit
def tWhole (s : TS) : V × TS := ((tVal 40 s 400).1, (tVal 40 s 400).2.1)
set_option maxRecDepth 100000 in
set_option maxHeartbeats 4000000 in
theorem whole_ag (b : Nat) (s : TS) : AG Try.prog 81 [.ptr 0 b 0] [tkB b s] (Takes b (tWhole s).1.t (tWhole s).2) := by
  have hc := fun c => tvalue_ag b c 40 s 400 (by omega) (by omega) (by omega)
  unfold tWhole
  generalize tVal 40 s 400 = q at *
  obtain ⟨⟨k, n, t, a⟩, s', m'⟩ := q
  dsimp only at hc ⊢
  refine AG.re (R := fun r hs => Re r (.c (V.mk k n t a).t) ∧ hs = [tkB b s']) ?_ (fun r hs h => ⟨_, h.1, rfl, h.2⟩)
  refine ag_enter 1 tok Try.func81 Try.ntmps81 Try.results81 rfl (by kernel_rfl) rfl fun F => ?_
  repeat (first | refine zNil ?_ | refine zOp ?_ | refine zOpn ?_ | refine zNo ?_ | refine zNon ?_ | refine zUn ?_ | refine zUnn ?_ | refine zYes ?_ | refine zYesn ?_ | (refine zkL ?_; first | refine zL1 ?_ | refine zL2 ?_ | refine zL3 ?_ | refine zLp ?_) | refine zM ?_ | (refine zkF ?_; first | refine zF1 ?_ | refine zF2 ?_ | refine zF3 ?_) | refine zA ?_ | (refine zkB ?_; first | refine zC5 ?_ | refine zC6 ?_ | refine zC1 ?_ | refine zC2 ?_ | refine zC3 ?_ | refine zC4 ?_ | refine zS5 ?_ | refine zS6 ?_ | refine zS1 ?_ | refine zS2 ?_ | refine zS3 ?_ | refine zS4 ?_ | refine zInc ?_ | refine zQ1 ?_ | refine zQ2 ?_ | refine zQ3 ?_ | refine zQ4 ?_ | refine zQ5 ?_ | refine zQ6 ?_) | (refine zkI ?_; first | refine zN1 (fun hlen => ?_) | refine zN2 (fun hlen => ?_) | refine zN3 ?_ | refine zN4 ?_ | refine zAp (fun _ => ?_)) | refine zS ?_ | refine zAl (fun _ => ?_) | refine zBx (fun _ => ?_) | refine zPt ?_ | refine zPf ?_ | refine zE ?_ | refine zEA ?_ | refine zNot ?_ | refine zBd ?_ | refine zBs ?_ | refine zFn ?_ | refine zK1 ?_ | refine zK2 ?_ | refine ac_seq ?_ | refine ac_block ?_ | refine ac_region ?_ | refine ac_skip ?_ | refine ac_exit ?_ | refine ac_ret ?_ | refine zT ?_ | refine zF ?_)
  refine zCallG [0, 2] (hc _) ?_
  rintro _ _ ⟨rfl, rfl⟩
  refine ⟨_, _, re_refl, rfl, rfl, ?_⟩
  repeat (first | refine zNil ?_ | refine zOp ?_ | refine zOpn ?_ | refine zNo ?_ | refine zNon ?_ | refine zUn ?_ | refine zUnn ?_ | refine zYes ?_ | refine zYesn ?_ | (refine zkL ?_; first | refine zL1 ?_ | refine zL2 ?_ | refine zL3 ?_ | refine zLp ?_) | refine zM ?_ | (refine zkF ?_; first | refine zF1 ?_ | refine zF2 ?_ | refine zF3 ?_) | refine zA ?_ | (refine zkB ?_; first | refine zC5 ?_ | refine zC6 ?_ | refine zC1 ?_ | refine zC2 ?_ | refine zC3 ?_ | refine zC4 ?_ | refine zS5 ?_ | refine zS6 ?_ | refine zS1 ?_ | refine zS2 ?_ | refine zS3 ?_ | refine zS4 ?_ | refine zInc ?_ | refine zQ1 ?_ | refine zQ2 ?_ | refine zQ3 ?_ | refine zQ4 ?_ | refine zQ5 ?_ | refine zQ6 ?_) | (refine zkI ?_; first | refine zN1 (fun hlen => ?_) | refine zN2 (fun hlen => ?_) | refine zN3 ?_ | refine zN4 ?_ | refine zAp (fun _ => ?_)) | refine zS ?_ | refine zAl (fun _ => ?_) | refine zBx (fun _ => ?_) | refine zPt ?_ | refine zPf ?_ | refine zE ?_ | refine zEA ?_ | refine zNot ?_ | refine zBd ?_ | refine zBs ?_ | refine zFn ?_ | refine zK1 ?_ | refine zK2 ?_ | refine ac_seq ?_ | refine ac_block ?_ | refine ac_region ?_ | refine ac_skip ?_ | refine ac_exit ?_ | refine ac_ret ?_ | refine zT ?_ | refine zF ?_)
  refine zG ?_
  exact ⟨re_cls (by repeat (first | exact rzs_nil | apply rzs_cons | exact rz_c | exact rz_nil rfl | apply rz_agg | exact rz_own rfl | apply rz_fn | exact rz_ptr rfl | apply rz_tup)), rfl⟩
mutual
theorem V.bytes_len2 : ∀ v : V, v.ok → v.size ≤ 1048576 → v.txt ≤ 1099511627776 → v.bytes.length ≤ 32 * v.size + v.txt
  | .mk k n t l, ho, hs, ht => by
    simp only [V.ok, V.size, V.txt] at ho hs ht
    have h1 := uv_len64 (zz_lt ho.1)
    have h2 := uv_len64 (n := t.size) (by omega)
    have h3 := uv_len64 (n := l.length) (by have := V.len_sizes l; omega)
    have h4 := V.bytesAll_len2 l ho.2 (by omega) (by omega)
    simp only [V.bytes, V.size, V.txt, List.length_cons, List.length_append, sz_len]
    omega
theorem V.bytesAll_len2 : ∀ l : List V, V.oks l → V.sizes l ≤ 1048576 → V.txts l ≤ 1099511627776 → (V.bytesAll l).length ≤ 32 * V.sizes l + V.txts l
  | [], _, _, _ => by simp [V.bytesAll]
  | v :: l, ho, hs, ht => by
    simp only [V.oks, V.sizes, V.txts] at ho hs ht
    have h1 := V.bytes_len2 v ho.1 (by omega) (by omega)
    have h2 := V.bytesAll_len2 l ho.2 (by omega) (by omega)
    simp only [V.bytesAll, V.sizes, V.txts, List.length_append]
    omega
end
theorem rVal_ok' (f : Nat) (s : RS) (h : (rVal f s).2.bad = false) : s = ⟨(rVal f s).1.bytes ++ (rVal f s).2.l, false, (rVal f s).2.dep⟩ ∧ (rVal f s).1.ok ∧ (rVal f s).1.kin := rVal_ok f s (rVal f s).1 (rVal f s).2 rfl h
/-- what the taker takes is small -/
theorem tWhole_fair (s : TS) : (tWhole s).1.ok ∧ (tWhole s).1.size ≤ 401 ∧ (tWhole s).1.bytes.length ≤ 1700000 := by
  obtain ⟨h1, h2, h3, _, h5⟩ := (tVal_fair 40).fair s 400 (by omega)
  have h6 : (tWhole s).1.size ≤ 401 := by unfold tWhole; dsimp only; omega
  refine ⟨h1, h6, ?_⟩
  have h7 := V.bytes_len2 (tWhole s).1 h1 (by omega) (by unfold tWhole at h6 ⊢; dsimp only at h6 ⊢; omega)
  unfold tWhole at h6 h7 ⊢
  dsimp only at h6 h7 ⊢
  omega
theorem every_imp {p q : V → Nat → Bool} (v : V) : ∀ (d e : Nat), (∀ x i j, j + d = i + e → p x i = true → q x j = true) → v.every p d = true → v.every q e = true := by
  induction v using V.ind with
  | h k n t l ih =>
    intro d e h hv
    rw [V.every, V.everys_eq, Bool.and_eq_true, List.all_eq_true] at hv ⊢
    exact ⟨h _ d e (by omega) hv.1, fun x hx => ih x hx (d + 1) (e + 1) (fun x i j hij => h x i j (by omega)) (hv.2 x hx)⟩
theorem kin_of {v : V} : ∀ {d : Nat}, v.every formP d = true → v.kin := by
  induction v using V.ind with
  | h k n t l ih =>
    intro d hv
    rw [V.every, V.everys_eq, Bool.and_eq_true, List.all_eq_true] at hv
    simp only [V.kin]
    refine ⟨?_, (V.kins_iff l).2 fun x hx => ih x hx (hv.2 x hx)⟩
    have h := hv.1
    simp only [formP, formN] at h
    split at h
    · omega
    split at h
    · omega
    split at h
    · omega
    split at h
    · omega
    split at h
    · omega
    split at h
    · omega
    split at h
    · omega
    split at h
    · omega
    · cases h
theorem check_ok {v : V} (h : v.check = 0) : v.size ≤ 400 ∧ v.low 1 = true ∧ v.every (fun x _ => decide (x.text.size ≤ 4000)) 1 = true ∧ v.kin := by
  unfold V.check at h
  split at h
  · rename_i h1
    split at h
    · rename_i h2
      simp only [V.fitB, Bool.and_eq_true, decide_eq_true_eq] at h1
      refine ⟨h1.1, ?_, ?_, kin_of h2⟩
      · refine every_imp v 1 1 (fun x i j hij hb => ?_) h1.2
        simp only [bigN, Bool.and_eq_true, Bool.not_eq_true', decide_eq_false_iff_not] at hb
        simp only [decide_eq_true_eq]
        omega
      · refine every_imp v 1 1 (fun x i j hij hb => ?_) h1.2
        simp only [bigN, Bool.and_eq_true, Bool.not_eq_true', decide_eq_false_iff_not] at hb
        simp only [decide_eq_true_eq]
        omega
    · omega
  · omega
end Go.Proofs.Ythgackidonocpaa
namespace Go.Proofs.Ythgackidonocpaa
open Go.RowKit
inductive Lt where
  | mk (k fm tt n : Int) (t : ByteArray) (v : V)
def Lt.val : Lt → V
  | .mk _ _ _ _ _ v => v
def Lt.ts : Lt → List T
  | .mk k fm tt n t v => [.lit (.int .i64 k), .lit (.int .i64 fm), .lit (.int .i64 tt), .lit (.int .i64 n), .lit (.string t)] ++ v.ts
def Lt.t (x : Lt) : T := .agg x.ts
theorem Lt.ts_len (x : Lt) : x.ts.length = 9 := by obtain ⟨k, fm, tt, n, t, v⟩ := x; simp [Lt.ts, V.ts_len]
def V.isZ : V → Bool
  | .mk k n t l => decide (k = 0) && decide (n = 0) && decide (t = ⟨#[]⟩) && decide ((l.length : Int) = 0)
def Lt.bad1 (k fm tt n : Int) (t : ByteArray) : Bool := decide (fm < 0) || decide (tt < 0) || decide (k < 1) || decide ((5 : Int) < k) || ((!decide (t = ⟨#[]⟩)) && !(decide (k = 2) || decide (k = 5))) || ((!decide (n = 0)) && !decide (k = 2)) || decide (n < 0) || decide ((2 : Int) < n)
def Lt.check : Lt → Int
  | .mk k fm tt n t v => if decide ((4000 : Int) < (t.size : Int)) = true then 2 else if Lt.bad1 k fm tt n t = true then 3 else if decide (k = 1) = true then v.check else if (!v.isZ) = true then 3 else 0
def Lt.fault : Lt → Int
  | .mk k fm tt n t v => if decide ((4000 : Int) < (t.size : Int)) = true then 2 else if (decide (fm < 0) || decide (tt < 0) || decide (k < 1) || decide ((5 : Int) < k)) = true then 3 else if ((!decide (k = 2) && !decide (n = 0)) || decide (n < 0) || decide ((2 : Int) < n)) = true then 3 else if (!decide (k = 2) && !decide (k = 5) && !decide (t = ⟨#[]⟩)) = true then 3 else if decide (k = 1) = true then v.check else if (!v.isZ) = true then 3 else 0
def Lt.bytes : Lt → List UInt8
  | .mk k fm tt n t v => kb k :: (uv fm.toNat ++ (uv tt.toNat ++ (uv n.toNat ++ (uv t.size ++ (t.data.toList ++ (if k = 1 then v.bytes else []))))))
/-- of a letter that is right -/
structure Lt.Right (k fm tt n : Int) (t : ByteArray) (v : V) : Prop where
  size : t.size ≤ 4000
  fm0 : 0 ≤ fm
  tt0 : 0 ≤ tt
  k1 : 1 ≤ k ∧ k ≤ 5
  n0 : 0 ≤ n ∧ n ≤ 2
  val : k = 1 → v.check = 0
  zero : k ≠ 1 → v = V.zero
theorem isZ_zero {v : V} (h : v.isZ = true) : v = V.zero := by
  obtain ⟨k, n, t, l⟩ := v
  simp only [V.isZ, Bool.and_eq_true, decide_eq_true_eq] at h
  obtain ⟨⟨⟨rfl, rfl⟩, rfl⟩, h4⟩ := h
  have : l = [] := List.eq_nil_of_length_eq_zero (by omega)
  subst this
  rfl
theorem Lt.right {k fm tt n : Int} {t : ByteArray} {v : V} (h : (Lt.mk k fm tt n t v).check = 0) : Lt.Right k fm tt n t v := by
  simp only [Lt.check] at h
  split at h
  · omega
  · rename_i h1
    split at h
    · omega
    · rename_i h2
      simp only [decide_eq_true_eq] at h1
      simp only [Lt.bad1, Bool.or_eq_true, not_or, decide_eq_true_eq] at h2
      obtain ⟨⟨⟨⟨⟨⟨⟨a1, a2⟩, a3⟩, a4⟩, -⟩, -⟩, a5⟩, a6⟩ := h2
      refine ⟨by omega, by omega, by omega, by omega, by omega, fun hk => ?_, fun hk => ?_⟩
      · rw [if_pos (by simpa using hk)] at h; exact h
      · rw [if_neg (by simpa using hk)] at h
        split at h
        · omega
        · rename_i h3
          exact isZ_zero (by simpa using h3)
/-- what is said of a letter that was read -/
def Lt.fine : Lt → Prop
  | .mk k fm tt n _ v => (0 ≤ k ∧ k < 256) ∧ inI fm ∧ inI tt ∧ inI n ∧ (k = 1 → v.ok ∧ v.kin) ∧ (k ≠ 1 → v = V.zero)
theorem kb_toNat {k : Int} (h : 0 ≤ k ∧ k < 256) : (((kb k).toNat : Nat) : Int) = k := toNat_kb h
theorem tWhole_to (v : V) (r : List UInt8) (hok : v.ok) (h : v.check = 0) : tWhole ⟨v.bytes ++ r, true⟩ = (v, ⟨r, true⟩) := by
  obtain ⟨c1, c2, c3, c4⟩ := check_ok h
  have ht := tVal_to v 40 0 1 r 400 hok c4 c3 c2 rfl (by omega) (by omega)
  unfold tWhole
  rw [ht]
def Lt.out (x : Lt) : List UInt8 := if x.check = 0 then x.bytes else []
def Lt.zero : Lt := .mk 0 0 0 0 ⟨#[]⟩ V.zero
/-- what was taken is small -/
structure Lt.Small (x : Lt) : Prop where
  ok : x.val.ok
  size : x.val.size ≤ 1048576
  bytes : x.val.bytes.length ≤ 1000000000
  nums : match x with | .mk _ fm tt n t _ => inI fm ∧ inI tt ∧ inI n ∧ t.size ≤ 1000000000
theorem zero_small : V.zero.ok ∧ V.zero.size ≤ 1048576 ∧ V.zero.bytes.length ≤ 1000000000 := by
  obtain ⟨h1, h2, h3⟩ := zero_fair
  have h4 := V.bytes_len V.zero h1 (by omega) (by omega)
  exact ⟨h1, by omega, by omega⟩
theorem zero_ok : V.zero.ok ∧ V.zero.bytes.length ≤ 9223372036854775807 := ⟨zero_small.1, by have := zero_small.2.2; omega⟩
end Go.Proofs.Ythgackidonocpaa
namespace Go.Proofs.Ythgackidonocpaa
open Go.RowKit
set_option maxRecDepth 100000 in
set_option maxHeartbeats 8000000 in
theorem isZero_af (v : V) : AF Try.prog 89 [v.t] (· = .lit (.bool v.isZ)) := by
  obtain ⟨k, n, t, l⟩ := v
  refine af_enter tok Try.func89 Try.ntmps89 Try.results89 rfl (by kernel_rfl) rfl rfl fun F hX => ?_
  cases d1 : decide (k = 0)
  · repeat (first | refine zNil ?_ | refine zOp ?_ | refine zOpn ?_ | refine zNo ?_ | refine zNon ?_ | refine zUn ?_ | refine zUnn ?_ | refine zYes ?_ | refine zYesn ?_ | (refine zkL ?_; first | refine zL1 ?_ | refine zL2 ?_ | refine zL3 ?_ | refine zLp ?_) | refine zM ?_ | (refine zkF ?_; first | refine zF1 ?_ | refine zF2 ?_ | refine zF3 ?_) | refine zA ?_ | (refine zkB ?_; first | refine zC5 ?_ | refine zC6 ?_ | refine zC1 ?_ | refine zC2 ?_ | refine zC3 ?_ | refine zC4 ?_ | refine zS5 ?_ | refine zS6 ?_ | refine zS1 ?_ | refine zS2 ?_ | refine zS3 ?_ | refine zS4 ?_ | refine zInc ?_ | refine zQ1 ?_ | refine zQ2 ?_ | refine zQ3 ?_ | refine zQ4 ?_ | refine zQ5 ?_ | refine zQ6 ?_) | (refine zkI ?_; first | refine zN1 (fun hlen => ?_) | refine zN2 (fun hlen => ?_) | refine zN3 ?_ | refine zN4 ?_ | refine zAp (fun _ => ?_)) | refine zS ?_ | refine zAl (fun _ => ?_) | refine zBf ?_ | refine zPt ?_ | refine zPf ?_ | refine zE ?_ | refine zEA ?_ | refine zNot ?_ | refine zBd ?_ | refine zBs ?_ | refine zFn ?_ | refine zK1 ?_ | refine zK2 ?_ | refine ac_seq ?_ | refine ac_block ?_ | refine ac_region ?_ | refine ac_skip ?_ | refine ac_exit ?_ | refine ac_ret ?_ | refine zT ?_ | refine zF ?_)
    first | refine zR ?_ | refine zQ ?_
    simp only [V.isZ, d1]; rfl
  cases d2 : decide (n = 0)
  · repeat (first | refine zNil ?_ | refine zOp ?_ | refine zOpn ?_ | refine zNo ?_ | refine zNon ?_ | refine zUn ?_ | refine zUnn ?_ | refine zYes ?_ | refine zYesn ?_ | (refine zkL ?_; first | refine zL1 ?_ | refine zL2 ?_ | refine zL3 ?_ | refine zLp ?_) | refine zM ?_ | (refine zkF ?_; first | refine zF1 ?_ | refine zF2 ?_ | refine zF3 ?_) | refine zA ?_ | (refine zkB ?_; first | refine zC5 ?_ | refine zC6 ?_ | refine zC1 ?_ | refine zC2 ?_ | refine zC3 ?_ | refine zC4 ?_ | refine zS5 ?_ | refine zS6 ?_ | refine zS1 ?_ | refine zS2 ?_ | refine zS3 ?_ | refine zS4 ?_ | refine zInc ?_ | refine zQ1 ?_ | refine zQ2 ?_ | refine zQ3 ?_ | refine zQ4 ?_ | refine zQ5 ?_ | refine zQ6 ?_) | (refine zkI ?_; first | refine zN1 (fun hlen => ?_) | refine zN2 (fun hlen => ?_) | refine zN3 ?_ | refine zN4 ?_ | refine zAp (fun _ => ?_)) | refine zS ?_ | refine zAl (fun _ => ?_) | refine zBf ?_ | refine zPt ?_ | refine zPf ?_ | refine zE ?_ | refine zEA ?_ | refine zNot ?_ | refine zBd ?_ | refine zBs ?_ | refine zFn ?_ | refine zK1 ?_ | refine zK2 ?_ | refine ac_seq ?_ | refine ac_block ?_ | refine ac_region ?_ | refine ac_skip ?_ | refine ac_exit ?_ | refine ac_ret ?_ | refine zT ?_ | refine zF ?_)
    first | refine zR ?_ | refine zQ ?_
    simp only [V.isZ, d1, d2]; rfl
  cases d3 : decide (t = ⟨#[]⟩)
  · repeat (first | refine zNil ?_ | refine zOp ?_ | refine zOpn ?_ | refine zNo ?_ | refine zNon ?_ | refine zUn ?_ | refine zUnn ?_ | refine zYes ?_ | refine zYesn ?_ | (refine zkL ?_; first | refine zL1 ?_ | refine zL2 ?_ | refine zL3 ?_ | refine zLp ?_) | refine zM ?_ | (refine zkF ?_; first | refine zF1 ?_ | refine zF2 ?_ | refine zF3 ?_) | refine zA ?_ | (refine zkB ?_; first | refine zC5 ?_ | refine zC6 ?_ | refine zC1 ?_ | refine zC2 ?_ | refine zC3 ?_ | refine zC4 ?_ | refine zS5 ?_ | refine zS6 ?_ | refine zS1 ?_ | refine zS2 ?_ | refine zS3 ?_ | refine zS4 ?_ | refine zInc ?_ | refine zQ1 ?_ | refine zQ2 ?_ | refine zQ3 ?_ | refine zQ4 ?_ | refine zQ5 ?_ | refine zQ6 ?_) | (refine zkI ?_; first | refine zN1 (fun hlen => ?_) | refine zN2 (fun hlen => ?_) | refine zN3 ?_ | refine zN4 ?_ | refine zAp (fun _ => ?_)) | refine zS ?_ | refine zAl (fun _ => ?_) | refine zBf ?_ | refine zPt ?_ | refine zPf ?_ | refine zE ?_ | refine zEA ?_ | refine zNot ?_ | refine zBd ?_ | refine zBs ?_ | refine zFn ?_ | refine zK1 ?_ | refine zK2 ?_ | refine ac_seq ?_ | refine ac_block ?_ | refine ac_region ?_ | refine ac_skip ?_ | refine ac_exit ?_ | refine ac_ret ?_ | refine zT ?_ | refine zF ?_)
    first | refine zR ?_ | refine zQ ?_
    simp only [V.isZ, d1, d2, d3]; rfl
  repeat (first | refine zNil ?_ | refine zOp ?_ | refine zOpn ?_ | refine zNo ?_ | refine zNon ?_ | refine zUn ?_ | refine zUnn ?_ | refine zYes ?_ | refine zYesn ?_ | (refine zkL ?_; first | refine zL1 ?_ | refine zL2 ?_ | refine zL3 ?_ | refine zLp ?_) | refine zM ?_ | (refine zkF ?_; first | refine zF1 ?_ | refine zF2 ?_ | refine zF3 ?_) | refine zA ?_ | (refine zkB ?_; first | refine zC5 ?_ | refine zC6 ?_ | refine zC1 ?_ | refine zC2 ?_ | refine zC3 ?_ | refine zC4 ?_ | refine zS5 ?_ | refine zS6 ?_ | refine zS1 ?_ | refine zS2 ?_ | refine zS3 ?_ | refine zS4 ?_ | refine zInc ?_ | refine zQ1 ?_ | refine zQ2 ?_ | refine zQ3 ?_ | refine zQ4 ?_ | refine zQ5 ?_ | refine zQ6 ?_) | (refine zkI ?_; first | refine zN1 (fun hlen => ?_) | refine zN2 (fun hlen => ?_) | refine zN3 ?_ | refine zN4 ?_ | refine zAp (fun _ => ?_)) | refine zS ?_ | refine zAl (fun _ => ?_) | refine zBf ?_ | refine zPt ?_ | refine zPf ?_ | refine zE ?_ | refine zEA ?_ | refine zNot ?_ | refine zBd ?_ | refine zBs ?_ | refine zFn ?_ | refine zK1 ?_ | refine zK2 ?_ | refine ac_seq ?_ | refine ac_block ?_ | refine ac_region ?_ | refine ac_skip ?_ | refine ac_exit ?_ | refine ac_ret ?_ | refine zT ?_ | refine zF ?_)
  first | refine zR ?_ | refine zQ ?_
  simp only [V.isZ, d1, d2, d3]; rfl
set_option maxRecDepth 100000 in
set_option maxHeartbeats 8000000 in
theorem none_af (v : V) : AF Try.prog 90 [v.t] (· = .lit (.bool v.isZ)) := by
  obtain ⟨k, n, t, l⟩ := v
  refine af_enter tok Try.func90 Try.ntmps90 Try.results90 rfl (by kernel_rfl) rfl rfl fun F hX => ?_
  cases d1 : decide (k = 0)
  · repeat (first | refine zNil ?_ | refine zOp ?_ | refine zOpn ?_ | refine zNo ?_ | refine zNon ?_ | refine zUn ?_ | refine zUnn ?_ | refine zYes ?_ | refine zYesn ?_ | (refine zkL ?_; first | refine zL1 ?_ | refine zL2 ?_ | refine zL3 ?_ | refine zLp ?_) | refine zM ?_ | (refine zkF ?_; first | refine zF1 ?_ | refine zF2 ?_ | refine zF3 ?_) | refine zA ?_ | (refine zkB ?_; first | refine zC5 ?_ | refine zC6 ?_ | refine zC1 ?_ | refine zC2 ?_ | refine zC3 ?_ | refine zC4 ?_ | refine zS5 ?_ | refine zS6 ?_ | refine zS1 ?_ | refine zS2 ?_ | refine zS3 ?_ | refine zS4 ?_ | refine zInc ?_ | refine zQ1 ?_ | refine zQ2 ?_ | refine zQ3 ?_ | refine zQ4 ?_ | refine zQ5 ?_ | refine zQ6 ?_) | (refine zkI ?_; first | refine zN1 (fun hlen => ?_) | refine zN2 (fun hlen => ?_) | refine zN3 ?_ | refine zN4 ?_ | refine zAp (fun _ => ?_)) | refine zS ?_ | refine zAl (fun _ => ?_) | refine zBf ?_ | refine zPt ?_ | refine zPf ?_ | refine zE ?_ | refine zEA ?_ | refine zNot ?_ | refine zBd ?_ | refine zBs ?_ | refine zFn ?_ | refine zK1 ?_ | refine zK2 ?_ | refine ac_seq ?_ | refine ac_block ?_ | refine ac_region ?_ | refine ac_skip ?_ | refine ac_exit ?_ | refine ac_ret ?_ | refine zT ?_ | refine zF ?_)
    first | refine zR ?_ | refine zQ ?_
    simp only [V.isZ, d1]; rfl
  cases d2 : decide (n = 0)
  · repeat (first | refine zNil ?_ | refine zOp ?_ | refine zOpn ?_ | refine zNo ?_ | refine zNon ?_ | refine zUn ?_ | refine zUnn ?_ | refine zYes ?_ | refine zYesn ?_ | (refine zkL ?_; first | refine zL1 ?_ | refine zL2 ?_ | refine zL3 ?_ | refine zLp ?_) | refine zM ?_ | (refine zkF ?_; first | refine zF1 ?_ | refine zF2 ?_ | refine zF3 ?_) | refine zA ?_ | (refine zkB ?_; first | refine zC5 ?_ | refine zC6 ?_ | refine zC1 ?_ | refine zC2 ?_ | refine zC3 ?_ | refine zC4 ?_ | refine zS5 ?_ | refine zS6 ?_ | refine zS1 ?_ | refine zS2 ?_ | refine zS3 ?_ | refine zS4 ?_ | refine zInc ?_ | refine zQ1 ?_ | refine zQ2 ?_ | refine zQ3 ?_ | refine zQ4 ?_ | refine zQ5 ?_ | refine zQ6 ?_) | (refine zkI ?_; first | refine zN1 (fun hlen => ?_) | refine zN2 (fun hlen => ?_) | refine zN3 ?_ | refine zN4 ?_ | refine zAp (fun _ => ?_)) | refine zS ?_ | refine zAl (fun _ => ?_) | refine zBf ?_ | refine zPt ?_ | refine zPf ?_ | refine zE ?_ | refine zEA ?_ | refine zNot ?_ | refine zBd ?_ | refine zBs ?_ | refine zFn ?_ | refine zK1 ?_ | refine zK2 ?_ | refine ac_seq ?_ | refine ac_block ?_ | refine ac_region ?_ | refine ac_skip ?_ | refine ac_exit ?_ | refine ac_ret ?_ | refine zT ?_ | refine zF ?_)
    first | refine zR ?_ | refine zQ ?_
    simp only [V.isZ, d1, d2]; rfl
  cases d3 : decide (t = ⟨#[]⟩)
  · repeat (first | refine zNil ?_ | refine zOp ?_ | refine zOpn ?_ | refine zNo ?_ | refine zNon ?_ | refine zUn ?_ | refine zUnn ?_ | refine zYes ?_ | refine zYesn ?_ | (refine zkL ?_; first | refine zL1 ?_ | refine zL2 ?_ | refine zL3 ?_ | refine zLp ?_) | refine zM ?_ | (refine zkF ?_; first | refine zF1 ?_ | refine zF2 ?_ | refine zF3 ?_) | refine zA ?_ | (refine zkB ?_; first | refine zC5 ?_ | refine zC6 ?_ | refine zC1 ?_ | refine zC2 ?_ | refine zC3 ?_ | refine zC4 ?_ | refine zS5 ?_ | refine zS6 ?_ | refine zS1 ?_ | refine zS2 ?_ | refine zS3 ?_ | refine zS4 ?_ | refine zInc ?_ | refine zQ1 ?_ | refine zQ2 ?_ | refine zQ3 ?_ | refine zQ4 ?_ | refine zQ5 ?_ | refine zQ6 ?_) | (refine zkI ?_; first | refine zN1 (fun hlen => ?_) | refine zN2 (fun hlen => ?_) | refine zN3 ?_ | refine zN4 ?_ | refine zAp (fun _ => ?_)) | refine zS ?_ | refine zAl (fun _ => ?_) | refine zBf ?_ | refine zPt ?_ | refine zPf ?_ | refine zE ?_ | refine zEA ?_ | refine zNot ?_ | refine zBd ?_ | refine zBs ?_ | refine zFn ?_ | refine zK1 ?_ | refine zK2 ?_ | refine ac_seq ?_ | refine ac_block ?_ | refine ac_region ?_ | refine ac_skip ?_ | refine ac_exit ?_ | refine ac_ret ?_ | refine zT ?_ | refine zF ?_)
    first | refine zR ?_ | refine zQ ?_
    simp only [V.isZ, d1, d2, d3]; rfl
  repeat (first | refine zNil ?_ | refine zOp ?_ | refine zOpn ?_ | refine zNo ?_ | refine zNon ?_ | refine zUn ?_ | refine zUnn ?_ | refine zYes ?_ | refine zYesn ?_ | (refine zkL ?_; first | refine zL1 ?_ | refine zL2 ?_ | refine zL3 ?_ | refine zLp ?_) | refine zM ?_ | (refine zkF ?_; first | refine zF1 ?_ | refine zF2 ?_ | refine zF3 ?_) | refine zA ?_ | (refine zkB ?_; first | refine zC5 ?_ | refine zC6 ?_ | refine zC1 ?_ | refine zC2 ?_ | refine zC3 ?_ | refine zC4 ?_ | refine zS5 ?_ | refine zS6 ?_ | refine zS1 ?_ | refine zS2 ?_ | refine zS3 ?_ | refine zS4 ?_ | refine zInc ?_ | refine zQ1 ?_ | refine zQ2 ?_ | refine zQ3 ?_ | refine zQ4 ?_ | refine zQ5 ?_ | refine zQ6 ?_) | (refine zkI ?_; first | refine zN1 (fun hlen => ?_) | refine zN2 (fun hlen => ?_) | refine zN3 ?_ | refine zN4 ?_ | refine zAp (fun _ => ?_)) | refine zS ?_ | refine zAl (fun _ => ?_) | refine zBf ?_ | refine zPt ?_ | refine zPf ?_ | refine zE ?_ | refine zEA ?_ | refine zNot ?_ | refine zBd ?_ | refine zBs ?_ | refine zFn ?_ | refine zK1 ?_ | refine zK2 ?_ | refine ac_seq ?_ | refine ac_block ?_ | refine ac_region ?_ | refine ac_skip ?_ | refine ac_exit ?_ | refine ac_ret ?_ | refine zT ?_ | refine zF ?_)
  first | refine zR ?_ | refine zQ ?_
  simp only [V.isZ, d1, d2, d3]; rfl
end Go.Proofs.Ythgackidonocpaa
namespace Go.Proofs.Ythgackidonocpaa
open Go.RowKit
structure Inp where
  kind : Int
  val : V
def Inp.ts (x : Inp) : List T := .lit (.int .i64 x.kind) :: x.val.ts
theorem Inp.ts_len (x : Inp) : x.ts.length = 5 := by simp [Inp.ts, V.ts_len]
def Inp.same (x y : Inp) : Bool := decide (x.kind = y.kind) && x.val.same y.val
def Inp.t (x : Inp) : T := .agg x.ts
structure Sav where
  actor : ByteArray
  state : List V
  inputs : List Inp
def inpRow (l : List Inp) : T := .row l.length 5 (l.flatMap Inp.ts)
def Sav.t (s : Sav) : T := .agg [.lit (.string s.actor), V.row s.state, inpRow s.inputs]
def Sav.same (s s' : Sav) : Bool := decide (s.actor = s'.actor) && eqBy V.same s.state s'.state && eqBy Inp.same s.inputs s'.inputs
theorem Sav.same_refl (s : Sav) : s.same s = true := by
  simp [Sav.same, eqBy_refl (fun a (_ : a ∈ s.state) => V.same_refl a), eqBy_refl (p := Inp.same) (l := s.inputs) (fun a _ => by simp [Inp.same, V.same_refl])]
set_option maxRecDepth 100000 in
set_option maxHeartbeats 1000000 in
theorem savedSmall_af (s : Sav) (h1 : ∀ v ∈ s.state, v.size ≤ 1048576) (h2 : ∀ x ∈ s.inputs, x.val.size ≤ 1048576) (hn : s.state.length ≤ 1048576) : AF Try.prog 33 [s.t] Tell := by
  have hvs := valuesSmall_af s.state h1 hn
  obtain ⟨ac, st, l⟩ := s
  dsimp only at *
  refine af_enter tok Try.func33 Try.ntmps33 Try.results33 rfl (by kernel_rfl) rfl rfl fun F hX => ?_
  repeat (first | refine zNil ?_ | refine zOp ?_ | refine zOpn ?_ | (refine zkL ?_; first | refine zL1 ?_ | refine zL2 ?_ | refine zL3 ?_ | refine zLp ?_) | refine zM ?_ | (refine zkF ?_; first | refine zF1 ?_ | refine zF2 ?_ | refine zF3 ?_) | refine zA ?_ | (refine zkB ?_; first | refine zC1 ?_ | refine zS1 ?_ | refine zInc ?_) | (refine zkI ?_; first | refine zN1 (fun hlen => ?_) | refine zN2 (fun hlen => ?_) | refine zN3 ?_ | refine zN4 ?_) | refine zS ?_ | refine zAl (fun _ => ?_) | refine zBx (fun _ => ?_) | refine zNot ?_ | refine ac_seq ?_ | refine ac_block ?_ | refine ac_region ?_ | refine ac_skip ?_ | refine ac_exit ?_ | refine ac_ret ?_ | refine zT ?_ | refine zF ?_)
  rename_i b0
  refine x_loop [2, 4, 8, 9, 10, 11, 12, 13, 14, 15, 16] (fun k : Nat => [(8, .c (.lit (.int .i64 k)))]) (fun _ => [.box b0 47 [.c (.lit (.string ac)), .c (V.row st), .c (inpRow l)]]) (fun k => k ≤ l.length) (fun k => l.length - k) 0 (Nat.zero_le _) ⟨rfl, trivial⟩ rfl fun k hk => ?_
  repeat (first | refine zNil ?_ | refine zOp ?_ | refine zOpn ?_ | (refine zkL ?_; first | refine zL1 ?_ | refine zL2 ?_ | refine zL3 ?_ | refine zLp ?_) | refine zM ?_ | (refine zkF ?_; first | refine zF1 ?_ | refine zF2 ?_ | refine zF3 ?_) | refine zA ?_ | (refine zkB ?_; first | refine zC1 ?_ | refine zS1 ?_ | refine zInc ?_) | (refine zkI ?_; first | refine zN1 (fun hlen => ?_) | refine zN2 (fun hlen => ?_) | refine zN3 ?_ | refine zN4 ?_) | refine zS ?_ | refine zAl (fun _ => ?_) | refine zBx (fun _ => ?_) | refine zNot ?_ | refine ac_seq ?_ | refine ac_block ?_ | refine ac_region ?_ | refine ac_skip ?_ | refine ac_exit ?_ | refine ac_ret ?_ | refine zT ?_ | refine zF ?_)
  refine x_cond rfl (fun h => ?_) (fun h => ?_)
  · have hk' : k < l.length := by simpa using h
    obtain ⟨a, ha⟩ := nth hk'
    have hs := valueSmall_af a.val (h2 a (List.mem_of_getElem? ha))
    repeat (first | refine zNil ?_ | refine zOp ?_ | refine zOpn ?_ | (refine zkL ?_; first | refine zL1 ?_ | refine zL2 ?_ | refine zL3 ?_ | refine zLp ?_) | refine zM ?_ | (refine zkF ?_; first | refine zF1 ?_ | refine zF2 ?_ | refine zF3 ?_) | refine zA ?_ | (refine zkB ?_; first | refine zC1 ?_ | refine zS1 ?_ | refine zInc ?_) | (refine zkI ?_; first | refine zN1 (fun hlen => ?_) | refine zN2 (fun hlen => ?_) | refine zN3 ?_ | refine zN4 ?_) | refine zS ?_ | refine zAl (fun _ => ?_) | refine zBx (fun _ => ?_) | refine zNot ?_ | refine ac_seq ?_ | refine ac_block ?_ | refine ac_region ?_ | refine ac_skip ?_ | refine ac_exit ?_ | refine ac_ret ?_ | refine zT ?_ | refine zF ?_)
    refine zIx (k) (hk') ?_
    repeat (first | refine zNil ?_ | refine zOp ?_ | refine zOpn ?_ | (refine zkL ?_; first | refine zL1 ?_ | refine zL2 ?_ | refine zL3 ?_ | refine zLp ?_) | refine zM ?_ | (refine zkF ?_; first | refine zF1 ?_ | refine zF2 ?_ | refine zF3 ?_) | refine zA ?_ | (refine zkB ?_; first | refine zC1 ?_ | refine zS1 ?_ | refine zInc ?_) | (refine zkI ?_; first | refine zN1 (fun hlen => ?_) | refine zN2 (fun hlen => ?_) | refine zN3 ?_ | refine zN4 ?_) | refine zS ?_ | refine zAl (fun _ => ?_) | refine zBx (fun _ => ?_) | refine zNot ?_ | refine ac_seq ?_ | refine ac_block ?_ | refine ac_region ?_ | refine ac_skip ?_ | refine ac_exit ?_ | refine ac_ret ?_ | refine zT ?_ | refine zF ?_)
    refine zEl (flat_at Inp.ts 5 Inp.ts_len ha) (Inp.ts_len a) ?_
    obtain ⟨kd, ⟨ka, na, ta, la⟩⟩ := a
    repeat (first | refine zNil ?_ | refine zOp ?_ | refine zOpn ?_ | (refine zkL ?_; first | refine zL1 ?_ | refine zL2 ?_ | refine zL3 ?_ | refine zLp ?_) | refine zM ?_ | (refine zkF ?_; first | refine zF1 ?_ | refine zF2 ?_ | refine zF3 ?_) | refine zA ?_ | (refine zkB ?_; first | refine zC1 ?_ | refine zS1 ?_ | refine zInc ?_) | (refine zkI ?_; first | refine zN1 (fun hlen => ?_) | refine zN2 (fun hlen => ?_) | refine zN3 ?_ | refine zN4 ?_) | refine zS ?_ | refine zAl (fun _ => ?_) | refine zBx (fun _ => ?_) | refine zNot ?_ | refine ac_seq ?_ | refine ac_block ?_ | refine ac_region ?_ | refine ac_skip ?_ | refine ac_exit ?_ | refine ac_ret ?_ | refine zT ?_ | refine zF ?_)
    refine zCall (hs) ?_
    rintro _ ⟨b, rfl⟩
    repeat (first | refine zNil ?_ | refine zOp ?_ | refine zOpn ?_ | (refine zkL ?_; first | refine zL1 ?_ | refine zL2 ?_ | refine zL3 ?_ | refine zLp ?_) | refine zM ?_ | (refine zkF ?_; first | refine zF1 ?_ | refine zF2 ?_ | refine zF3 ?_) | refine zA ?_ | (refine zkB ?_; first | refine zC1 ?_ | refine zS1 ?_ | refine zInc ?_) | (refine zkI ?_; first | refine zN1 (fun hlen => ?_) | refine zN2 (fun hlen => ?_) | refine zN3 ?_ | refine zN4 ?_) | refine zS ?_ | refine zAl (fun _ => ?_) | refine zBx (fun _ => ?_) | refine zNot ?_ | refine ac_seq ?_ | refine ac_block ?_ | refine ac_region ?_ | refine ac_skip ?_ | refine ac_exit ?_ | refine ac_ret ?_ | refine zT ?_ | refine zF ?_)
    refine x_cond rfl (fun h => ?_) (fun h => ?_)
    · repeat (first | refine zNil ?_ | refine zOp ?_ | refine zOpn ?_ | (refine zkL ?_; first | refine zL1 ?_ | refine zL2 ?_ | refine zL3 ?_ | refine zLp ?_) | refine zM ?_ | (refine zkF ?_; first | refine zF1 ?_ | refine zF2 ?_ | refine zF3 ?_) | refine zA ?_ | (refine zkB ?_; first | refine zC1 ?_ | refine zS1 ?_ | refine zInc ?_) | (refine zkI ?_; first | refine zN1 (fun hlen => ?_) | refine zN2 (fun hlen => ?_) | refine zN3 ?_ | refine zN4 ?_) | refine zS ?_ | refine zAl (fun _ => ?_) | refine zBx (fun _ => ?_) | refine zNot ?_ | refine ac_seq ?_ | refine ac_block ?_ | refine ac_region ?_ | refine ac_skip ?_ | refine ac_exit ?_ | refine ac_ret ?_ | refine zT ?_ | refine zF ?_)
      first | refine zR ?_ | refine zQ ?_
      exact ⟨_, rfl⟩
    · repeat (first | refine zNil ?_ | refine zOp ?_ | refine zOpn ?_ | (refine zkL ?_; first | refine zL1 ?_ | refine zL2 ?_ | refine zL3 ?_ | refine zLp ?_) | refine zM ?_ | (refine zkF ?_; first | refine zF1 ?_ | refine zF2 ?_ | refine zF3 ?_) | refine zA ?_ | (refine zkB ?_; first | refine zC1 ?_ | refine zS1 ?_ | refine zInc ?_) | (refine zkI ?_; first | refine zN1 (fun hlen => ?_) | refine zN2 (fun hlen => ?_) | refine zN3 ?_ | refine zN4 ?_) | refine zS ?_ | refine zAl (fun _ => ?_) | refine zBx (fun _ => ?_) | refine zNot ?_ | refine ac_seq ?_ | refine ac_block ?_ | refine ac_region ?_ | refine ac_skip ?_ | refine ac_exit ?_ | refine ac_ret ?_ | refine zT ?_ | refine zF ?_)
      exact ⟨k + 1, hk', by omega, x_wkd 1 ⟨rfl, trivial⟩ rfl (by repeat (first | exact ag_refl | refine ag_upd rfl ?_ | refine ag_at rfl rfl ?_))⟩
  · repeat (first | refine zNil ?_ | refine zOp ?_ | refine zOpn ?_ | (refine zkL ?_; first | refine zL1 ?_ | refine zL2 ?_ | refine zL3 ?_ | refine zLp ?_) | refine zM ?_ | (refine zkF ?_; first | refine zF1 ?_ | refine zF2 ?_ | refine zF3 ?_) | refine zA ?_ | (refine zkB ?_; first | refine zC1 ?_ | refine zS1 ?_ | refine zInc ?_) | (refine zkI ?_; first | refine zN1 (fun hlen => ?_) | refine zN2 (fun hlen => ?_) | refine zN3 ?_ | refine zN4 ?_) | refine zS ?_ | refine zAl (fun _ => ?_) | refine zBx (fun _ => ?_) | refine zNot ?_ | refine ac_seq ?_ | refine ac_block ?_ | refine ac_region ?_ | refine ac_skip ?_ | refine ac_exit ?_ | refine ac_ret ?_ | refine zT ?_ | refine zF ?_)
    refine zCall (hvs) ?_
    rintro _ ⟨b, rfl⟩
    repeat (first | refine zNil ?_ | refine zOp ?_ | refine zOpn ?_ | (refine zkL ?_; first | refine zL1 ?_ | refine zL2 ?_ | refine zL3 ?_ | refine zLp ?_) | refine zM ?_ | (refine zkF ?_; first | refine zF1 ?_ | refine zF2 ?_ | refine zF3 ?_) | refine zA ?_ | (refine zkB ?_; first | refine zC1 ?_ | refine zS1 ?_ | refine zInc ?_) | (refine zkI ?_; first | refine zN1 (fun hlen => ?_) | refine zN2 (fun hlen => ?_) | refine zN3 ?_ | refine zN4 ?_) | refine zS ?_ | refine zAl (fun _ => ?_) | refine zBx (fun _ => ?_) | refine zNot ?_ | refine ac_seq ?_ | refine ac_block ?_ | refine ac_region ?_ | refine ac_skip ?_ | refine ac_exit ?_ | refine ac_ret ?_ | refine zT ?_ | refine zF ?_)
    first | refine zR ?_ | refine zQ ?_
    exact ⟨_, rfl⟩
set_option maxRecDepth 100000 in
set_option maxHeartbeats 1000000 in
theorem sameInp_af (x y : Inp) : AF Try.prog 95 [x.t, y.t] (· = .lit (.bool (x.same y))) := by
  have hc := sameValue_af x.val y.val
  obtain ⟨k, ⟨ka, na, ta, la⟩⟩ := x
  obtain ⟨k', ⟨kb, nb, tb, lb⟩⟩ := y
  dsimp only at hc
  refine af_enter tok Try.func95 Try.ntmps95 Try.results95 rfl (by kernel_rfl) rfl rfl fun F hX => ?_
  cases d1 : decide (k = k')
  · repeat (first | refine zNil ?_ | refine zOp ?_ | refine zNo ?_ | refine zNon ?_ | refine zUn ?_ | refine zUnn ?_ | refine zYes ?_ | refine zYesn ?_ | (refine zkL ?_; first | refine zL1 ?_ | refine zL2 ?_ | refine zL3 ?_ | refine zLp ?_) | refine zM ?_ | (refine zkF ?_; first | refine zF1 ?_ | refine zF2 ?_ | refine zF3 ?_) | refine zA ?_ | (refine zkB ?_; first | refine zC5 ?_ | refine zS5 ?_ | refine zQ1 ?_ | refine zQ2 ?_ | refine zQ3 ?_ | refine zQ4 ?_ | refine zQ5 ?_ | refine zQ6 ?_) | refine zBx (fun _ => ?_) | refine zPt ?_ | refine zPf ?_ | refine ac_seq ?_ | refine ac_block ?_ | refine ac_region ?_ | refine ac_skip ?_ | refine ac_exit ?_ | refine ac_ret ?_ | refine zT ?_ | refine zF ?_)
    first | refine zR ?_ | refine zQ ?_
    simp [Inp.same, d1, outT]
  · repeat (first | refine zNil ?_ | refine zOp ?_ | refine zNo ?_ | refine zNon ?_ | refine zUn ?_ | refine zUnn ?_ | refine zYes ?_ | refine zYesn ?_ | (refine zkL ?_; first | refine zL1 ?_ | refine zL2 ?_ | refine zL3 ?_ | refine zLp ?_) | refine zM ?_ | (refine zkF ?_; first | refine zF1 ?_ | refine zF2 ?_ | refine zF3 ?_) | refine zA ?_ | (refine zkB ?_; first | refine zC5 ?_ | refine zS5 ?_ | refine zQ1 ?_ | refine zQ2 ?_ | refine zQ3 ?_ | refine zQ4 ?_ | refine zQ5 ?_ | refine zQ6 ?_) | refine zBx (fun _ => ?_) | refine zPt ?_ | refine zPf ?_ | refine ac_seq ?_ | refine ac_block ?_ | refine ac_region ?_ | refine ac_skip ?_ | refine ac_exit ?_ | refine ac_ret ?_ | refine zT ?_ | refine zF ?_)
    refine zCall (hc) ?_
    rintro _ rfl
    repeat (first | refine zNil ?_ | refine zOp ?_ | refine zNo ?_ | refine zNon ?_ | refine zUn ?_ | refine zUnn ?_ | refine zYes ?_ | refine zYesn ?_ | (refine zkL ?_; first | refine zL1 ?_ | refine zL2 ?_ | refine zL3 ?_ | refine zLp ?_) | refine zM ?_ | (refine zkF ?_; first | refine zF1 ?_ | refine zF2 ?_ | refine zF3 ?_) | refine zA ?_ | (refine zkB ?_; first | refine zC5 ?_ | refine zS5 ?_ | refine zQ1 ?_ | refine zQ2 ?_ | refine zQ3 ?_ | refine zQ4 ?_ | refine zQ5 ?_ | refine zQ6 ?_) | refine zBx (fun _ => ?_) | refine zPt ?_ | refine zPf ?_ | refine ac_seq ?_ | refine ac_block ?_ | refine ac_region ?_ | refine ac_skip ?_ | refine ac_exit ?_ | refine ac_ret ?_ | refine zT ?_ | refine zF ?_)
    first | refine zR ?_ | refine zQ ?_
    simp [Inp.same, d1, outT]
set_option maxRecDepth 100000 in
set_option maxHeartbeats 1000000 in
theorem eqInps_af (p : Inp → Inp → Bool) (f : FuncId) (l r : List Inp) (hf : ∀ a ∈ l, ∀ b ∈ r, AF Try.prog f [a.t, b.t] (· = .lit (.bool (p a b)))) :
    AF Try.prog 94 [inpRow l, inpRow r, .fn (.func f) []] (· = .lit (.bool (eqBy p l r))) := by
  refine af_enter tok Try.func94 Try.ntmps94 Try.results94 rfl (by kernel_rfl) rfl rfl fun F hX => ?_
  repeat (first | refine zNil ?_ | refine zOp ?_ | refine zOpn ?_ | (refine zkL ?_; first | refine zL1 ?_ | refine zL2 ?_ | refine zL3 ?_ | refine zLp ?_) | refine zM ?_ | refine zA ?_ | (refine zkB ?_; first | refine zC6 ?_ | refine zS6 ?_ | refine zQ1 ?_ | refine zQ2 ?_ | refine zQ3 ?_ | refine zQ4 ?_ | refine zQ5 ?_ | refine zQ6 ?_ | refine zC1 ?_ | refine zS1 ?_ | refine zInc ?_) | (refine zkI ?_; first | refine zN1 (fun hlen => ?_) | refine zN2 (fun hlen => ?_) | refine zN3 ?_ | refine zN4 ?_) | refine zS ?_ | refine zAl (fun _ => ?_) | refine zNot ?_ | refine ac_seq ?_ | refine ac_block ?_ | refine ac_region ?_ | refine ac_skip ?_ | refine ac_exit ?_ | refine ac_ret ?_ | refine zT ?_ | refine zF ?_)
  refine x_cond rfl (fun h => ?_) (fun h => ?_)
  · repeat (first | refine zNil ?_ | refine zOp ?_ | refine zOpn ?_ | (refine zkL ?_; first | refine zL1 ?_ | refine zL2 ?_ | refine zL3 ?_ | refine zLp ?_) | refine zM ?_ | refine zA ?_ | (refine zkB ?_; first | refine zC6 ?_ | refine zS6 ?_ | refine zQ1 ?_ | refine zQ2 ?_ | refine zQ3 ?_ | refine zQ4 ?_ | refine zQ5 ?_ | refine zQ6 ?_ | refine zC1 ?_ | refine zS1 ?_ | refine zInc ?_) | (refine zkI ?_; first | refine zN1 (fun hlen => ?_) | refine zN2 (fun hlen => ?_) | refine zN3 ?_ | refine zN4 ?_) | refine zS ?_ | refine zAl (fun _ => ?_) | refine zNot ?_ | refine ac_seq ?_ | refine ac_block ?_ | refine ac_region ?_ | refine ac_skip ?_ | refine ac_exit ?_ | refine ac_ret ?_ | refine zT ?_ | refine zF ?_)
    first | refine zR ?_ | refine zQ ?_
    have : l.length ≠ r.length := by have := h; simp at this; omega
    rw [eqBy_len this]
    rfl
  · have hlr : l.length = r.length := by have := h; simp at this; omega
    repeat (first | refine zNil ?_ | refine zOp ?_ | refine zOpn ?_ | (refine zkL ?_; first | refine zL1 ?_ | refine zL2 ?_ | refine zL3 ?_ | refine zLp ?_) | refine zM ?_ | refine zA ?_ | (refine zkB ?_; first | refine zC6 ?_ | refine zS6 ?_ | refine zQ1 ?_ | refine zQ2 ?_ | refine zQ3 ?_ | refine zQ4 ?_ | refine zQ5 ?_ | refine zQ6 ?_ | refine zC1 ?_ | refine zS1 ?_ | refine zInc ?_) | (refine zkI ?_; first | refine zN1 (fun hlen => ?_) | refine zN2 (fun hlen => ?_) | refine zN3 ?_ | refine zN4 ?_) | refine zS ?_ | refine zAl (fun _ => ?_) | refine zNot ?_ | refine ac_seq ?_ | refine ac_block ?_ | refine ac_region ?_ | refine ac_skip ?_ | refine ac_exit ?_ | refine ac_ret ?_ | refine zT ?_ | refine zF ?_)
    refine x_loop [6, 7, 8, 9, 17, 18, 19, 20, 21, 22, 23, 24, 25, 26, 27, 28, 29, 30, 31] (fun k : Nat => [(17, .c (.lit (.int .i64 k)))]) (fun _ => []) (fun k => k ≤ l.length ∧ eqBy p l r = eqBy p (l.drop k) (r.drop k)) (fun k => l.length - k) 0 ⟨Nat.zero_le _, rfl⟩ ⟨rfl, trivial⟩ rfl fun k hk => ?_
    repeat (first | refine zNil ?_ | refine zOp ?_ | refine zOpn ?_ | (refine zkL ?_; first | refine zL1 ?_ | refine zL2 ?_ | refine zL3 ?_ | refine zLp ?_) | refine zM ?_ | refine zA ?_ | (refine zkB ?_; first | refine zC6 ?_ | refine zS6 ?_ | refine zQ1 ?_ | refine zQ2 ?_ | refine zQ3 ?_ | refine zQ4 ?_ | refine zQ5 ?_ | refine zQ6 ?_ | refine zC1 ?_ | refine zS1 ?_ | refine zInc ?_) | (refine zkI ?_; first | refine zN1 (fun hlen => ?_) | refine zN2 (fun hlen => ?_) | refine zN3 ?_ | refine zN4 ?_) | refine zS ?_ | refine zAl (fun _ => ?_) | refine zNot ?_ | refine ac_seq ?_ | refine ac_block ?_ | refine ac_region ?_ | refine ac_skip ?_ | refine ac_exit ?_ | refine ac_ret ?_ | refine zT ?_ | refine zF ?_)
    refine x_cond rfl (fun h => ?_) (fun h => ?_)
    · have hk' : k < l.length := by simpa using h
      obtain ⟨a, ha⟩ := nth hk'
      obtain ⟨b, hb⟩ := nth (hlr ▸ hk' : k < r.length)
      have hp := hf a (List.mem_of_getElem? ha) b (List.mem_of_getElem? hb)
      have hstep : eqBy p (l.drop k) (r.drop k) = (p a b && eqBy p (l.drop (k + 1)) (r.drop (k + 1))) := eqBy_step ha hb
      repeat (first | refine zNil ?_ | refine zOp ?_ | refine zOpn ?_ | (refine zkL ?_; first | refine zL1 ?_ | refine zL2 ?_ | refine zL3 ?_ | refine zLp ?_) | refine zM ?_ | refine zA ?_ | (refine zkB ?_; first | refine zC6 ?_ | refine zS6 ?_ | refine zQ1 ?_ | refine zQ2 ?_ | refine zQ3 ?_ | refine zQ4 ?_ | refine zQ5 ?_ | refine zQ6 ?_ | refine zC1 ?_ | refine zS1 ?_ | refine zInc ?_) | (refine zkI ?_; first | refine zN1 (fun hlen => ?_) | refine zN2 (fun hlen => ?_) | refine zN3 ?_ | refine zN4 ?_) | refine zS ?_ | refine zAl (fun _ => ?_) | refine zNot ?_ | refine ac_seq ?_ | refine ac_block ?_ | refine ac_region ?_ | refine ac_skip ?_ | refine ac_exit ?_ | refine ac_ret ?_ | refine zT ?_ | refine zF ?_)
      refine zIx (k) (hk') ?_
      repeat (first | refine zNil ?_ | refine zOp ?_ | refine zOpn ?_ | (refine zkL ?_; first | refine zL1 ?_ | refine zL2 ?_ | refine zL3 ?_ | refine zLp ?_) | refine zM ?_ | refine zA ?_ | (refine zkB ?_; first | refine zC6 ?_ | refine zS6 ?_ | refine zQ1 ?_ | refine zQ2 ?_ | refine zQ3 ?_ | refine zQ4 ?_ | refine zQ5 ?_ | refine zQ6 ?_ | refine zC1 ?_ | refine zS1 ?_ | refine zInc ?_) | (refine zkI ?_; first | refine zN1 (fun hlen => ?_) | refine zN2 (fun hlen => ?_) | refine zN3 ?_ | refine zN4 ?_) | refine zS ?_ | refine zAl (fun _ => ?_) | refine zNot ?_ | refine ac_seq ?_ | refine ac_block ?_ | refine ac_region ?_ | refine ac_skip ?_ | refine ac_exit ?_ | refine ac_ret ?_ | refine zT ?_ | refine zF ?_)
      refine zEl (flat_at Inp.ts 5 Inp.ts_len ha) (Inp.ts_len a) ?_
      generalize hpq : p a b = pq at *
      obtain ⟨kd, ⟨ka, na, ta, la⟩⟩ := a
      obtain ⟨kd', ⟨kb, nb, tb, lb⟩⟩ := b
      repeat (first | refine zNil ?_ | refine zOp ?_ | refine zOpn ?_ | (refine zkL ?_; first | refine zL1 ?_ | refine zL2 ?_ | refine zL3 ?_ | refine zLp ?_) | refine zM ?_ | refine zA ?_ | (refine zkB ?_; first | refine zC6 ?_ | refine zS6 ?_ | refine zQ1 ?_ | refine zQ2 ?_ | refine zQ3 ?_ | refine zQ4 ?_ | refine zQ5 ?_ | refine zQ6 ?_ | refine zC1 ?_ | refine zS1 ?_ | refine zInc ?_) | (refine zkI ?_; first | refine zN1 (fun hlen => ?_) | refine zN2 (fun hlen => ?_) | refine zN3 ?_ | refine zN4 ?_) | refine zS ?_ | refine zAl (fun _ => ?_) | refine zNot ?_ | refine ac_seq ?_ | refine ac_block ?_ | refine ac_region ?_ | refine ac_skip ?_ | refine ac_exit ?_ | refine ac_ret ?_ | refine zT ?_ | refine zF ?_)
      refine zIx (k) (hlr ▸ hk') ?_
      repeat (first | refine zNil ?_ | refine zOp ?_ | refine zOpn ?_ | (refine zkL ?_; first | refine zL1 ?_ | refine zL2 ?_ | refine zL3 ?_ | refine zLp ?_) | refine zM ?_ | refine zA ?_ | (refine zkB ?_; first | refine zC6 ?_ | refine zS6 ?_ | refine zQ1 ?_ | refine zQ2 ?_ | refine zQ3 ?_ | refine zQ4 ?_ | refine zQ5 ?_ | refine zQ6 ?_ | refine zC1 ?_ | refine zS1 ?_ | refine zInc ?_) | (refine zkI ?_; first | refine zN1 (fun hlen => ?_) | refine zN2 (fun hlen => ?_) | refine zN3 ?_ | refine zN4 ?_) | refine zS ?_ | refine zAl (fun _ => ?_) | refine zNot ?_ | refine ac_seq ?_ | refine ac_block ?_ | refine ac_region ?_ | refine ac_skip ?_ | refine ac_exit ?_ | refine ac_ret ?_ | refine zT ?_ | refine zF ?_)
      refine zEl (flat_at Inp.ts 5 Inp.ts_len hb) (Inp.ts_len _) ?_
      repeat (first | refine zNil ?_ | refine zOp ?_ | refine zOpn ?_ | (refine zkL ?_; first | refine zL1 ?_ | refine zL2 ?_ | refine zL3 ?_ | refine zLp ?_) | refine zM ?_ | refine zA ?_ | (refine zkB ?_; first | refine zC6 ?_ | refine zS6 ?_ | refine zQ1 ?_ | refine zQ2 ?_ | refine zQ3 ?_ | refine zQ4 ?_ | refine zQ5 ?_ | refine zQ6 ?_ | refine zC1 ?_ | refine zS1 ?_ | refine zInc ?_) | (refine zkI ?_; first | refine zN1 (fun hlen => ?_) | refine zN2 (fun hlen => ?_) | refine zN3 ?_ | refine zN4 ?_) | refine zS ?_ | refine zAl (fun _ => ?_) | refine zNot ?_ | refine ac_seq ?_ | refine ac_block ?_ | refine ac_region ?_ | refine ac_skip ?_ | refine ac_exit ?_ | refine ac_ret ?_ | refine zT ?_ | refine zF ?_)
      refine zCallc (hp) ?_
      rintro _ rfl
      repeat (first | refine zNil ?_ | refine zOp ?_ | refine zOpn ?_ | (refine zkL ?_; first | refine zL1 ?_ | refine zL2 ?_ | refine zL3 ?_ | refine zLp ?_) | refine zM ?_ | refine zA ?_ | (refine zkB ?_; first | refine zC6 ?_ | refine zS6 ?_ | refine zQ1 ?_ | refine zQ2 ?_ | refine zQ3 ?_ | refine zQ4 ?_ | refine zQ5 ?_ | refine zQ6 ?_ | refine zC1 ?_ | refine zS1 ?_ | refine zInc ?_) | (refine zkI ?_; first | refine zN1 (fun hlen => ?_) | refine zN2 (fun hlen => ?_) | refine zN3 ?_ | refine zN4 ?_) | refine zS ?_ | refine zAl (fun _ => ?_) | refine zNot ?_ | refine ac_seq ?_ | refine ac_block ?_ | refine ac_region ?_ | refine ac_skip ?_ | refine ac_exit ?_ | refine ac_ret ?_ | refine zT ?_ | refine zF ?_)
      refine x_cond rfl (fun h => ?_) (fun h => ?_)
      · repeat (first | refine zNil ?_ | refine zOp ?_ | refine zOpn ?_ | (refine zkL ?_; first | refine zL1 ?_ | refine zL2 ?_ | refine zL3 ?_ | refine zLp ?_) | refine zM ?_ | refine zA ?_ | (refine zkB ?_; first | refine zC6 ?_ | refine zS6 ?_ | refine zQ1 ?_ | refine zQ2 ?_ | refine zQ3 ?_ | refine zQ4 ?_ | refine zQ5 ?_ | refine zQ6 ?_ | refine zC1 ?_ | refine zS1 ?_ | refine zInc ?_) | (refine zkI ?_; first | refine zN1 (fun hlen => ?_) | refine zN2 (fun hlen => ?_) | refine zN3 ?_ | refine zN4 ?_) | refine zS ?_ | refine zAl (fun _ => ?_) | refine zNot ?_ | refine ac_seq ?_ | refine ac_block ?_ | refine ac_region ?_ | refine ac_skip ?_ | refine ac_exit ?_ | refine ac_ret ?_ | refine zT ?_ | refine zF ?_)
        first | refine zR ?_ | refine zQ ?_
        have hq : pq = false := by simpa using h
        rw [hk.2, hstep, hq]
        rfl
      · repeat (first | refine zNil ?_ | refine zOp ?_ | refine zOpn ?_ | (refine zkL ?_; first | refine zL1 ?_ | refine zL2 ?_ | refine zL3 ?_ | refine zLp ?_) | refine zM ?_ | refine zA ?_ | (refine zkB ?_; first | refine zC6 ?_ | refine zS6 ?_ | refine zQ1 ?_ | refine zQ2 ?_ | refine zQ3 ?_ | refine zQ4 ?_ | refine zQ5 ?_ | refine zQ6 ?_ | refine zC1 ?_ | refine zS1 ?_ | refine zInc ?_) | (refine zkI ?_; first | refine zN1 (fun hlen => ?_) | refine zN2 (fun hlen => ?_) | refine zN3 ?_ | refine zN4 ?_) | refine zS ?_ | refine zAl (fun _ => ?_) | refine zNot ?_ | refine ac_seq ?_ | refine ac_block ?_ | refine ac_region ?_ | refine ac_skip ?_ | refine ac_exit ?_ | refine ac_ret ?_ | refine zT ?_ | refine zF ?_)
        have hq : pq = true := by simpa using h
        exact ⟨k + 1, ⟨hk', by rw [hk.2, hstep, hq, Bool.true_and]⟩, by omega, x_wkd 0 ⟨rfl, trivial⟩ rfl (by repeat (first | exact ag_refl | refine ag_upd rfl ?_ | refine ag_at rfl rfl ?_))⟩
    · have hk' : k = l.length := by have : ¬ k < l.length := by simpa using h
                                    omega
      repeat (first | refine zNil ?_ | refine zOp ?_ | refine zOpn ?_ | (refine zkL ?_; first | refine zL1 ?_ | refine zL2 ?_ | refine zL3 ?_ | refine zLp ?_) | refine zM ?_ | refine zA ?_ | (refine zkB ?_; first | refine zC6 ?_ | refine zS6 ?_ | refine zQ1 ?_ | refine zQ2 ?_ | refine zQ3 ?_ | refine zQ4 ?_ | refine zQ5 ?_ | refine zQ6 ?_ | refine zC1 ?_ | refine zS1 ?_ | refine zInc ?_) | (refine zkI ?_; first | refine zN1 (fun hlen => ?_) | refine zN2 (fun hlen => ?_) | refine zN3 ?_ | refine zN4 ?_) | refine zS ?_ | refine zAl (fun _ => ?_) | refine zNot ?_ | refine ac_seq ?_ | refine ac_block ?_ | refine ac_region ?_ | refine ac_skip ?_ | refine ac_exit ?_ | refine ac_ret ?_ | refine zT ?_ | refine zF ?_)
      first | refine zR ?_ | refine zQ ?_
      rw [hk.2, hk', List.drop_length, hlr, List.drop_length]
      rfl
set_option maxRecDepth 100000 in
set_option maxHeartbeats 1000000 in
theorem sameSaved_af (s s' : Sav) : AF Try.prog 32 [s.t, s'.t] (· = .lit (.bool (s.same s'))) := by
  have h1 := eqVals_af V.same 22 s.state s'.state (fun a _ b _ => sameValue_af a b)
  have h2 := eqInps_af Inp.same 95 s.inputs s'.inputs (fun a _ b _ => sameInp_af a b)
  obtain ⟨ac, st, l⟩ := s
  obtain ⟨ac', st', l'⟩ := s'
  dsimp only at h1 h2
  refine af_enter tok Try.func32 Try.ntmps32 Try.results32 rfl (by kernel_rfl) rfl rfl fun F hX => ?_
  cases d1 : decide (ac = ac')
  · repeat (first | refine zNil ?_ | refine zOp ?_ | refine zNo ?_ | refine zNon ?_ | refine zUn ?_ | refine zUnn ?_ | refine zYes ?_ | refine zYesn ?_ | (refine zkL ?_; first | refine zL1 ?_ | refine zL2 ?_ | refine zL3 ?_ | refine zLp ?_) | refine zM ?_ | (refine zkF ?_; first | refine zF1 ?_ | refine zF2 ?_ | refine zF3 ?_) | refine zA ?_ | (refine zkB ?_; first | refine zC5 ?_ | refine zS5 ?_ | refine zQ1 ?_ | refine zQ2 ?_ | refine zQ3 ?_ | refine zQ4 ?_ | refine zQ5 ?_ | refine zQ6 ?_) | refine zBx (fun _ => ?_) | refine zPt ?_ | refine zPf ?_ | refine ac_seq ?_ | refine ac_block ?_ | refine ac_region ?_ | refine ac_skip ?_ | refine ac_exit ?_ | refine ac_ret ?_ | refine zT ?_ | refine zF ?_)
    first | refine zR ?_ | refine zQ ?_
    simp [Sav.same, d1, outT]
  · repeat (first | refine zNil ?_ | refine zOp ?_ | refine zNo ?_ | refine zNon ?_ | refine zUn ?_ | refine zUnn ?_ | refine zYes ?_ | refine zYesn ?_ | (refine zkL ?_; first | refine zL1 ?_ | refine zL2 ?_ | refine zL3 ?_ | refine zLp ?_) | refine zM ?_ | (refine zkF ?_; first | refine zF1 ?_ | refine zF2 ?_ | refine zF3 ?_) | refine zA ?_ | (refine zkB ?_; first | refine zC5 ?_ | refine zS5 ?_ | refine zQ1 ?_ | refine zQ2 ?_ | refine zQ3 ?_ | refine zQ4 ?_ | refine zQ5 ?_ | refine zQ6 ?_) | refine zBx (fun _ => ?_) | refine zPt ?_ | refine zPf ?_ | refine ac_seq ?_ | refine ac_block ?_ | refine ac_region ?_ | refine ac_skip ?_ | refine ac_exit ?_ | refine ac_ret ?_ | refine zT ?_ | refine zF ?_)
    refine zCall (h1) ?_
    rintro _ rfl
    cases d2 : eqBy V.same st st'
    · repeat (first | refine zNil ?_ | refine zOp ?_ | refine zNo ?_ | refine zNon ?_ | refine zUn ?_ | refine zUnn ?_ | refine zYes ?_ | refine zYesn ?_ | (refine zkL ?_; first | refine zL1 ?_ | refine zL2 ?_ | refine zL3 ?_ | refine zLp ?_) | refine zM ?_ | (refine zkF ?_; first | refine zF1 ?_ | refine zF2 ?_ | refine zF3 ?_) | refine zA ?_ | (refine zkB ?_; first | refine zC5 ?_ | refine zS5 ?_ | refine zQ1 ?_ | refine zQ2 ?_ | refine zQ3 ?_ | refine zQ4 ?_ | refine zQ5 ?_ | refine zQ6 ?_) | refine zBx (fun _ => ?_) | refine zPt ?_ | refine zPf ?_ | refine ac_seq ?_ | refine ac_block ?_ | refine ac_region ?_ | refine ac_skip ?_ | refine ac_exit ?_ | refine ac_ret ?_ | refine zT ?_ | refine zF ?_)
      first | refine zR ?_ | refine zQ ?_
      simp [Sav.same, d2, outT]
    · repeat (first | refine zNil ?_ | refine zOp ?_ | refine zNo ?_ | refine zNon ?_ | refine zUn ?_ | refine zUnn ?_ | refine zYes ?_ | refine zYesn ?_ | (refine zkL ?_; first | refine zL1 ?_ | refine zL2 ?_ | refine zL3 ?_ | refine zLp ?_) | refine zM ?_ | (refine zkF ?_; first | refine zF1 ?_ | refine zF2 ?_ | refine zF3 ?_) | refine zA ?_ | (refine zkB ?_; first | refine zC5 ?_ | refine zS5 ?_ | refine zQ1 ?_ | refine zQ2 ?_ | refine zQ3 ?_ | refine zQ4 ?_ | refine zQ5 ?_ | refine zQ6 ?_) | refine zBx (fun _ => ?_) | refine zPt ?_ | refine zPf ?_ | refine ac_seq ?_ | refine ac_block ?_ | refine ac_region ?_ | refine ac_skip ?_ | refine ac_exit ?_ | refine ac_ret ?_ | refine zT ?_ | refine zF ?_)
      refine zCall (h2) ?_
      rintro _ rfl
      repeat (first | refine zNil ?_ | refine zOp ?_ | refine zNo ?_ | refine zNon ?_ | refine zUn ?_ | refine zUnn ?_ | refine zYes ?_ | refine zYesn ?_ | (refine zkL ?_; first | refine zL1 ?_ | refine zL2 ?_ | refine zL3 ?_ | refine zLp ?_) | refine zM ?_ | (refine zkF ?_; first | refine zF1 ?_ | refine zF2 ?_ | refine zF3 ?_) | refine zA ?_ | (refine zkB ?_; first | refine zC5 ?_ | refine zS5 ?_ | refine zQ1 ?_ | refine zQ2 ?_ | refine zQ3 ?_ | refine zQ4 ?_ | refine zQ5 ?_ | refine zQ6 ?_) | refine zBx (fun _ => ?_) | refine zPt ?_ | refine zPf ?_ | refine ac_seq ?_ | refine ac_block ?_ | refine ac_region ?_ | refine ac_skip ?_ | refine ac_exit ?_ | refine ac_ret ?_ | refine zT ?_ | refine zF ?_)
      first | refine zR ?_ | refine zQ ?_
      simp [Sav.same, d1, d2, outT]
end Go.Proofs.Ythgackidonocpaa
