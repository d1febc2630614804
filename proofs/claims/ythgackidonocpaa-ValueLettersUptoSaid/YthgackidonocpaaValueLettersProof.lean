/-
  ValueLettersUptoSaid: where the arguments are of bulk at most the bound, ValueLetters returns true and its arguments read afterwards as before. No further condition.
-/
import Derived.Test.YthgackidonocpaaTlwB
import Derived.Test.YthgackidonocpaaOpenV
import Derived.Test.YthgackidonocpaaTlwA
import Derived.Test.YthgackidonocpaaOpenB
import Derived.Test.YthgackidonocpaaLaw
namespace Go.Proofs.Ythgackidonocpaa
open Go.RowKit

set_option maxRecDepth 100000 in
set_option maxHeartbeats 4000000 in
theorem sameLetter_af (x : Lt) : AF Try.prog 25 [x.t, x.t] (· = .lit (.bool true)) := by
  obtain ⟨k, fm, tt, n, t, v⟩ := x
  have h3 := sameValue_af v v
  rw [V.same_refl] at h3
  have e1 : decide (k = k) = true := by simp
  have e2 : decide (fm = fm) = true := by simp
  have e3 : decide (tt = tt) = true := by simp
  have e4 : decide (n = n) = true := by simp
  have e5 : decide (t = t) = true := by simp
  obtain ⟨kv, nv, tv, lv⟩ := v
  refine af_enter tok Try.func25 Try.ntmps25 Try.results25 rfl (by kernel_rfl) rfl rfl fun F hX => ?_
  repeat (first | refine zNil ?_ | refine zOp ?_ | refine zOpn ?_ | refine zNo ?_ | refine zNon ?_ | refine zUn ?_ | refine zUnn ?_ | refine zYes ?_ | refine zYesn ?_ | (refine zkL ?_; first | refine zL1 ?_ | refine zL2 ?_ | refine zL3 ?_ | refine zLp ?_) | refine zM ?_ | (refine zkF ?_; first | refine zF1 ?_ | refine zF2 ?_ | refine zF3 ?_) | refine zA ?_ | (refine zkB ?_; first | refine zC5 ?_ | refine zC6 ?_ | refine zC1 ?_ | refine zC2 ?_ | refine zC3 ?_ | refine zC4 ?_ | refine zS5 ?_ | refine zS6 ?_ | refine zS1 ?_ | refine zS2 ?_ | refine zS3 ?_ | refine zS4 ?_ | refine zInc ?_ | refine zQ1 ?_ | refine zQ2 ?_ | refine zQ3 ?_ | refine zQ4 ?_ | refine zQ5 ?_ | refine zQ6 ?_) | (refine zkI ?_; first | refine zN1 (fun hlen => ?_) | refine zN2 (fun hlen => ?_) | refine zN3 ?_ | refine zN4 ?_ | refine zAp (fun _ => ?_)) | refine zS ?_ | refine zAl (fun _ => ?_) | refine zBf ?_ | refine zPt ?_ | refine zPf ?_ | refine zE ?_ | refine zEA ?_ | refine zNot ?_ | refine zBd ?_ | refine zBs ?_ | refine zFn ?_ | refine zK1 ?_ | refine zK2 ?_ | refine ac_seq ?_ | refine ac_block ?_ | refine ac_region ?_ | refine ac_skip ?_ | refine ac_exit ?_ | refine ac_ret ?_ | refine zT ?_ | refine zF ?_)
  refine zCall (h3) ?_
  rintro _ rfl
  repeat (first | refine zNil ?_ | refine zOp ?_ | refine zOpn ?_ | refine zNo ?_ | refine zNon ?_ | refine zUn ?_ | refine zUnn ?_ | refine zYes ?_ | refine zYesn ?_ | (refine zkL ?_; first | refine zL1 ?_ | refine zL2 ?_ | refine zL3 ?_ | refine zLp ?_) | refine zM ?_ | (refine zkF ?_; first | refine zF1 ?_ | refine zF2 ?_ | refine zF3 ?_) | refine zA ?_ | (refine zkB ?_; first | refine zC5 ?_ | refine zC6 ?_ | refine zC1 ?_ | refine zC2 ?_ | refine zC3 ?_ | refine zC4 ?_ | refine zS5 ?_ | refine zS6 ?_ | refine zS1 ?_ | refine zS2 ?_ | refine zS3 ?_ | refine zS4 ?_ | refine zInc ?_ | refine zQ1 ?_ | refine zQ2 ?_ | refine zQ3 ?_ | refine zQ4 ?_ | refine zQ5 ?_ | refine zQ6 ?_) | (refine zkI ?_; first | refine zN1 (fun hlen => ?_) | refine zN2 (fun hlen => ?_) | refine zN3 ?_ | refine zN4 ?_ | refine zAp (fun _ => ?_)) | refine zS ?_ | refine zAl (fun _ => ?_) | refine zBx (fun _ => ?_) | refine zPt ?_ | refine zPf ?_ | refine zE ?_ | refine zEA ?_ | refine zNot ?_ | refine zBd ?_ | refine zBs ?_ | refine zFn ?_ | refine zK1 ?_ | refine zK2 ?_ | refine ac_seq ?_ | refine ac_block ?_ | refine ac_region ?_ | refine ac_skip ?_ | refine ac_exit ?_ | refine ac_ret ?_ | refine zT ?_ | refine zF ?_)
  first | refine zR ?_ | refine zQ ?_
  rfl

set_option maxRecDepth 100000 in
set_option maxHeartbeats 4000000 in
theorem valueLetters_law (x : Lt) (l : List UInt8) (hs : x.Small) : AF Try.prog 5 [x.t, bytRow l] (· = .lit (.bool true)) := by
  have h0 := live_af
  have h1 := readLetter_af l
  have h2 := letterOf_af l
  rw [← same_letter] at h2
  generalize rdLet l = q at *
  obtain ⟨y, e⟩ := q
  dsimp only at h1 h2
  have h3 := sameLetter_af y
  have h4 := valueSmall_af x.val hs.size
  have h5 := letterW_af x hs
  have h6 := letterBytes_af x hs
  have h7 := checkLetter_af x
  have h8 := letterFault_af x hs.size
  rw [Lt.fault_eq] at h8
  have h9 := sameBytes_af x.out x.out
  have e2 : decide (bs x.out = bs x.out) = true := by simp
  rw [e2] at h9
  have e1 : decide (e = e) = true := by simp
  have e3 : decide (x.check = x.check) = true := by simp
  generalize x.out = o at *
  generalize x.check = c at *
  obtain ⟨ky, fy, ty, ny, xy, ⟨kw, nw, tw, lw⟩⟩ := y
  obtain ⟨k, fm, tt, n, t, ⟨kv, nv, tv, lv⟩⟩ := x
  simp only [Lt.val] at h4
  refine af_enter tok Try.func5 Try.ntmps5 Try.results5 rfl (by kernel_rfl) rfl rfl fun F hX => ?_
  repeat (first | refine zNil ?_ | refine zOp ?_ | refine zOpn ?_ | refine zNo ?_ | refine zNon ?_ | refine zUn ?_ | refine zUnn ?_ | refine zYes ?_ | refine zYesn ?_ | (refine zkL ?_; first | refine zL1 ?_ | refine zL2 ?_ | refine zL3 ?_ | refine zLp ?_) | refine zM ?_ | (refine zkF ?_; first | refine zF1 ?_ | refine zF2 ?_ | refine zF3 ?_) | refine zA ?_ | (refine zkB ?_; first | refine zC5 ?_ | refine zC6 ?_ | refine zC1 ?_ | refine zC2 ?_ | refine zC3 ?_ | refine zC4 ?_ | refine zS5 ?_ | refine zS6 ?_ | refine zS1 ?_ | refine zS2 ?_ | refine zS3 ?_ | refine zS4 ?_ | refine zInc ?_ | refine zQ1 ?_ | refine zQ2 ?_ | refine zQ3 ?_ | refine zQ4 ?_ | refine zQ5 ?_ | refine zQ6 ?_) | (refine zkI ?_; first | refine zN1 (fun hlen => ?_) | refine zN2 (fun hlen => ?_) | refine zN3 ?_ | refine zN4 ?_ | refine zAp (fun _ => ?_)) | refine zS ?_ | refine zAl (fun _ => ?_) | refine zBf ?_ | refine zPt ?_ | refine zPf ?_ | refine zE ?_ | refine zEA ?_ | refine zNot ?_ | refine zBd ?_ | refine zBs ?_ | refine zFn ?_ | refine zK1 ?_ | refine zK2 ?_ | refine ac_seq ?_ | refine ac_block ?_ | refine ac_region ?_ | refine ac_skip ?_ | refine ac_exit ?_ | refine ac_ret ?_ | refine zT ?_ | refine zF ?_)
  refine zCall (h1) ?_
  rintro _ rfl
  repeat (first | refine zNil ?_ | refine zOp ?_ | refine zOpn ?_ | refine zNo ?_ | refine zNon ?_ | refine zUn ?_ | refine zUnn ?_ | refine zYes ?_ | refine zYesn ?_ | (refine zkL ?_; first | refine zL1 ?_ | refine zL2 ?_ | refine zL3 ?_ | refine zLp ?_) | refine zM ?_ | (refine zkF ?_; first | refine zF1 ?_ | refine zF2 ?_ | refine zF3 ?_) | refine zA ?_ | (refine zkB ?_; first | refine zC5 ?_ | refine zC6 ?_ | refine zC1 ?_ | refine zC2 ?_ | refine zC3 ?_ | refine zC4 ?_ | refine zS5 ?_ | refine zS6 ?_ | refine zS1 ?_ | refine zS2 ?_ | refine zS3 ?_ | refine zS4 ?_ | refine zInc ?_ | refine zQ1 ?_ | refine zQ2 ?_ | refine zQ3 ?_ | refine zQ4 ?_ | refine zQ5 ?_ | refine zQ6 ?_) | (refine zkI ?_; first | refine zN1 (fun hlen => ?_) | refine zN2 (fun hlen => ?_) | refine zN3 ?_ | refine zN4 ?_ | refine zAp (fun _ => ?_)) | refine zS ?_ | refine zAl (fun _ => ?_) | refine zBx (fun _ => ?_) | refine zPt ?_ | refine zPf ?_ | refine zE ?_ | refine zEA ?_ | refine zNot ?_ | refine zBd ?_ | refine zBs ?_ | refine zFn ?_ | refine zK1 ?_ | refine zK2 ?_ | refine ac_seq ?_ | refine ac_block ?_ | refine ac_region ?_ | refine ac_skip ?_ | refine ac_exit ?_ | refine ac_ret ?_ | refine zT ?_ | refine zF ?_)
  refine zCall (h2) ?_
  rintro _ rfl
  repeat (first | refine zNil ?_ | refine zOp ?_ | refine zOpn ?_ | refine zNo ?_ | refine zNon ?_ | refine zUn ?_ | refine zUnn ?_ | refine zYes ?_ | refine zYesn ?_ | (refine zkL ?_; first | refine zL1 ?_ | refine zL2 ?_ | refine zL3 ?_ | refine zLp ?_) | refine zM ?_ | (refine zkF ?_; first | refine zF1 ?_ | refine zF2 ?_ | refine zF3 ?_) | refine zA ?_ | (refine zkB ?_; first | refine zC5 ?_ | refine zC6 ?_ | refine zC1 ?_ | refine zC2 ?_ | refine zC3 ?_ | refine zC4 ?_ | refine zS5 ?_ | refine zS6 ?_ | refine zS1 ?_ | refine zS2 ?_ | refine zS3 ?_ | refine zS4 ?_ | refine zInc ?_ | refine zQ1 ?_ | refine zQ2 ?_ | refine zQ3 ?_ | refine zQ4 ?_ | refine zQ5 ?_ | refine zQ6 ?_) | (refine zkI ?_; first | refine zN1 (fun hlen => ?_) | refine zN2 (fun hlen => ?_) | refine zN3 ?_ | refine zN4 ?_ | refine zAp (fun _ => ?_)) | refine zS ?_ | refine zAl (fun _ => ?_) | refine zBx (fun _ => ?_) | refine zPt ?_ | refine zPf ?_ | refine zE ?_ | refine zEA ?_ | refine zNot ?_ | refine zBd ?_ | refine zBs ?_ | refine zFn ?_ | refine zK1 ?_ | refine zK2 ?_ | refine ac_seq ?_ | refine ac_block ?_ | refine ac_region ?_ | refine ac_skip ?_ | refine ac_exit ?_ | refine ac_ret ?_ | refine zT ?_ | refine zF ?_)
  refine zCall (h0) ?_
  rintro _ rfl
  repeat (first | refine zNil ?_ | refine zOp ?_ | refine zOpn ?_ | refine zNo ?_ | refine zNon ?_ | refine zUn ?_ | refine zUnn ?_ | refine zYes ?_ | refine zYesn ?_ | (refine zkL ?_; first | refine zL1 ?_ | refine zL2 ?_ | refine zL3 ?_ | refine zLp ?_) | refine zM ?_ | (refine zkF ?_; first | refine zF1 ?_ | refine zF2 ?_ | refine zF3 ?_) | refine zA ?_ | (refine zkB ?_; first | refine zC5 ?_ | refine zC6 ?_ | refine zC1 ?_ | refine zC2 ?_ | refine zC3 ?_ | refine zC4 ?_ | refine zS5 ?_ | refine zS6 ?_ | refine zS1 ?_ | refine zS2 ?_ | refine zS3 ?_ | refine zS4 ?_ | refine zInc ?_ | refine zQ1 ?_ | refine zQ2 ?_ | refine zQ3 ?_ | refine zQ4 ?_ | refine zQ5 ?_ | refine zQ6 ?_) | (refine zkI ?_; first | refine zN1 (fun hlen => ?_) | refine zN2 (fun hlen => ?_) | refine zN3 ?_ | refine zN4 ?_ | refine zAp (fun _ => ?_)) | refine zS ?_ | refine zAl (fun _ => ?_) | refine zBx (fun _ => ?_) | refine zPt ?_ | refine zPf ?_ | refine zE ?_ | refine zEA ?_ | refine zNot ?_ | refine zBd ?_ | refine zBs ?_ | refine zFn ?_ | refine zK1 ?_ | refine zK2 ?_ | refine ac_seq ?_ | refine ac_block ?_ | refine ac_region ?_ | refine ac_skip ?_ | refine ac_exit ?_ | refine ac_ret ?_ | refine zT ?_ | refine zF ?_)
  refine zCall (h3) ?_
  rintro _ rfl
  repeat (first | refine zNil ?_ | refine zOp ?_ | refine zOpn ?_ | refine zNo ?_ | refine zNon ?_ | refine zUn ?_ | refine zUnn ?_ | refine zYes ?_ | refine zYesn ?_ | (refine zkL ?_; first | refine zL1 ?_ | refine zL2 ?_ | refine zL3 ?_ | refine zLp ?_) | refine zM ?_ | (refine zkF ?_; first | refine zF1 ?_ | refine zF2 ?_ | refine zF3 ?_) | refine zA ?_ | (refine zkB ?_; first | refine zC5 ?_ | refine zC6 ?_ | refine zC1 ?_ | refine zC2 ?_ | refine zC3 ?_ | refine zC4 ?_ | refine zS5 ?_ | refine zS6 ?_ | refine zS1 ?_ | refine zS2 ?_ | refine zS3 ?_ | refine zS4 ?_ | refine zInc ?_ | refine zQ1 ?_ | refine zQ2 ?_ | refine zQ3 ?_ | refine zQ4 ?_ | refine zQ5 ?_ | refine zQ6 ?_) | (refine zkI ?_; first | refine zN1 (fun hlen => ?_) | refine zN2 (fun hlen => ?_) | refine zN3 ?_ | refine zN4 ?_ | refine zAp (fun _ => ?_)) | refine zS ?_ | refine zAl (fun _ => ?_) | refine zBx (fun _ => ?_) | refine zPt ?_ | refine zPf ?_ | refine zE ?_ | refine zEA ?_ | refine zNot ?_ | refine zBd ?_ | refine zBs ?_ | refine zFn ?_ | refine zK1 ?_ | refine zK2 ?_ | refine ac_seq ?_ | refine ac_block ?_ | refine ac_region ?_ | refine ac_skip ?_ | refine ac_exit ?_ | refine ac_ret ?_ | refine zT ?_ | refine zF ?_)
  refine zCall (h4) ?_
  rintro _ ⟨q, rfl⟩
  cases q
  · repeat (first | refine zNil ?_ | refine zOp ?_ | refine zOpn ?_ | refine zNo ?_ | refine zNon ?_ | refine zUn ?_ | refine zUnn ?_ | refine zYes ?_ | refine zYesn ?_ | (refine zkL ?_; first | refine zL1 ?_ | refine zL2 ?_ | refine zL3 ?_ | refine zLp ?_) | refine zM ?_ | (refine zkF ?_; first | refine zF1 ?_ | refine zF2 ?_ | refine zF3 ?_) | refine zA ?_ | (refine zkB ?_; first | refine zC5 ?_ | refine zC6 ?_ | refine zC1 ?_ | refine zC2 ?_ | refine zC3 ?_ | refine zC4 ?_ | refine zS5 ?_ | refine zS6 ?_ | refine zS1 ?_ | refine zS2 ?_ | refine zS3 ?_ | refine zS4 ?_ | refine zInc ?_ | refine zQ1 ?_ | refine zQ2 ?_ | refine zQ3 ?_ | refine zQ4 ?_ | refine zQ5 ?_ | refine zQ6 ?_) | (refine zkI ?_; first | refine zN1 (fun hlen => ?_) | refine zN2 (fun hlen => ?_) | refine zN3 ?_ | refine zN4 ?_ | refine zAp (fun _ => ?_)) | refine zS ?_ | refine zAl (fun _ => ?_) | refine zBx (fun _ => ?_) | refine zPt ?_ | refine zPf ?_ | refine zE ?_ | refine zEA ?_ | refine zNot ?_ | refine zBd ?_ | refine zBs ?_ | refine zFn ?_ | refine zK1 ?_ | refine zK2 ?_ | refine ac_seq ?_ | refine ac_block ?_ | refine ac_region ?_ | refine ac_skip ?_ | refine ac_exit ?_ | refine ac_ret ?_ | refine zT ?_ | refine zF ?_)
    first | refine zR ?_ | refine zQ ?_
    rfl
  · repeat (first | refine zNil ?_ | refine zOp ?_ | refine zOpn ?_ | refine zNo ?_ | refine zNon ?_ | refine zUn ?_ | refine zUnn ?_ | refine zYes ?_ | refine zYesn ?_ | (refine zkL ?_; first | refine zL1 ?_ | refine zL2 ?_ | refine zL3 ?_ | refine zLp ?_) | refine zM ?_ | (refine zkF ?_; first | refine zF1 ?_ | refine zF2 ?_ | refine zF3 ?_) | refine zA ?_ | (refine zkB ?_; first | refine zC5 ?_ | refine zC6 ?_ | refine zC1 ?_ | refine zC2 ?_ | refine zC3 ?_ | refine zC4 ?_ | refine zS5 ?_ | refine zS6 ?_ | refine zS1 ?_ | refine zS2 ?_ | refine zS3 ?_ | refine zS4 ?_ | refine zInc ?_ | refine zQ1 ?_ | refine zQ2 ?_ | refine zQ3 ?_ | refine zQ4 ?_ | refine zQ5 ?_ | refine zQ6 ?_) | (refine zkI ?_; first | refine zN1 (fun hlen => ?_) | refine zN2 (fun hlen => ?_) | refine zN3 ?_ | refine zN4 ?_ | refine zAp (fun _ => ?_)) | refine zS ?_ | refine zAl (fun _ => ?_) | refine zBx (fun _ => ?_) | refine zPt ?_ | refine zPf ?_ | refine zE ?_ | refine zEA ?_ | refine zNot ?_ | refine zBd ?_ | refine zBs ?_ | refine zFn ?_ | refine zK1 ?_ | refine zK2 ?_ | refine ac_seq ?_ | refine ac_block ?_ | refine ac_region ?_ | refine ac_skip ?_ | refine ac_exit ?_ | refine ac_ret ?_ | refine zT ?_ | refine zF ?_)
    refine zCall (h5) ?_
    rintro _ rfl
    repeat (first | refine zNil ?_ | refine zOp ?_ | refine zOpn ?_ | refine zNo ?_ | refine zNon ?_ | refine zUn ?_ | refine zUnn ?_ | refine zYes ?_ | refine zYesn ?_ | (refine zkL ?_; first | refine zL1 ?_ | refine zL2 ?_ | refine zL3 ?_ | refine zLp ?_) | refine zM ?_ | (refine zkF ?_; first | refine zF1 ?_ | refine zF2 ?_ | refine zF3 ?_) | refine zA ?_ | (refine zkB ?_; first | refine zC5 ?_ | refine zC6 ?_ | refine zC1 ?_ | refine zC2 ?_ | refine zC3 ?_ | refine zC4 ?_ | refine zS5 ?_ | refine zS6 ?_ | refine zS1 ?_ | refine zS2 ?_ | refine zS3 ?_ | refine zS4 ?_ | refine zInc ?_ | refine zQ1 ?_ | refine zQ2 ?_ | refine zQ3 ?_ | refine zQ4 ?_ | refine zQ5 ?_ | refine zQ6 ?_) | (refine zkI ?_; first | refine zN1 (fun hlen => ?_) | refine zN2 (fun hlen => ?_) | refine zN3 ?_ | refine zN4 ?_ | refine zAp (fun _ => ?_)) | refine zS ?_ | refine zAl (fun _ => ?_) | refine zBx (fun _ => ?_) | refine zPt ?_ | refine zPf ?_ | refine zE ?_ | refine zEA ?_ | refine zNot ?_ | refine zBd ?_ | refine zBs ?_ | refine zFn ?_ | refine zK1 ?_ | refine zK2 ?_ | refine ac_seq ?_ | refine ac_block ?_ | refine ac_region ?_ | refine ac_skip ?_ | refine ac_exit ?_ | refine ac_ret ?_ | refine zT ?_ | refine zF ?_)
    refine zCall (h6) ?_
    rintro _ rfl
    repeat (first | refine zNil ?_ | refine zOp ?_ | refine zOpn ?_ | refine zNo ?_ | refine zNon ?_ | refine zUn ?_ | refine zUnn ?_ | refine zYes ?_ | refine zYesn ?_ | (refine zkL ?_; first | refine zL1 ?_ | refine zL2 ?_ | refine zL3 ?_ | refine zLp ?_) | refine zM ?_ | (refine zkF ?_; first | refine zF1 ?_ | refine zF2 ?_ | refine zF3 ?_) | refine zA ?_ | (refine zkB ?_; first | refine zC5 ?_ | refine zC6 ?_ | refine zC1 ?_ | refine zC2 ?_ | refine zC3 ?_ | refine zC4 ?_ | refine zS5 ?_ | refine zS6 ?_ | refine zS1 ?_ | refine zS2 ?_ | refine zS3 ?_ | refine zS4 ?_ | refine zInc ?_ | refine zQ1 ?_ | refine zQ2 ?_ | refine zQ3 ?_ | refine zQ4 ?_ | refine zQ5 ?_ | refine zQ6 ?_) | (refine zkI ?_; first | refine zN1 (fun hlen => ?_) | refine zN2 (fun hlen => ?_) | refine zN3 ?_ | refine zN4 ?_ | refine zAp (fun _ => ?_)) | refine zS ?_ | refine zAl (fun _ => ?_) | refine zBx (fun _ => ?_) | refine zPt ?_ | refine zPf ?_ | refine zE ?_ | refine zEA ?_ | refine zNot ?_ | refine zBd ?_ | refine zBs ?_ | refine zFn ?_ | refine zK1 ?_ | refine zK2 ?_ | refine ac_seq ?_ | refine ac_block ?_ | refine ac_region ?_ | refine ac_skip ?_ | refine ac_exit ?_ | refine ac_ret ?_ | refine zT ?_ | refine zF ?_)
    refine ac_draw [1, 1, 1, 1, 1, 1, 1, 1, 1, 1, 1, 1, 1, 1, 1, 1] [0, 1, 2, 3, 4, 5, 6, 7, 8, 9, 10, 11, 12, 13, 14, 15] (by kernel_rfl) (by kernel_rfl) ?_
    apply w_q; (focus exact rfl); (focus exact rfl); focus (intro _; (first | refine zL1 ?_ | refine zL2 ?_ | refine zL3 ?_ | refine zLp ?_); exact det_refl)
    apply w_q; (focus exact rfl); (focus exact rfl); focus (intro _; (refine lo_call h7 rfl (by repeat (first | exact rzs_nil | apply rzs_cons | exact rz_c | exact rz_nil rfl | apply rz_agg | exact rz_own rfl | apply rz_fn | exact rz_ptr rfl | apply rz_tup)) ?_; rintro _ rfl); exact det_refl)
    apply w_q; (focus exact rfl); (focus exact rfl); focus (intro _; (first | refine zL1 ?_ | refine zL2 ?_ | refine zL3 ?_ | refine zLp ?_); exact det_refl)
    apply w_q; (focus exact rfl); (focus exact rfl); focus (intro _; (refine lo_call h8 rfl (by repeat (first | exact rzs_nil | apply rzs_cons | exact rz_c | exact rz_nil rfl | apply rz_agg | exact rz_own rfl | apply rz_fn | exact rz_ptr rfl | apply rz_tup)) ?_; rintro _ rfl); exact det_refl)
    apply w_q; (focus exact rfl); (focus exact rfl); focus (intro _; (first | refine zC5 ?_ | refine zS5 ?_ | refine zQ1 ?_ | refine zQ2 ?_ | refine zQ3 ?_ | refine zQ4 ?_ | refine zQ5 ?_ | refine zQ6 ?_); exact det_refl)
    apply w_q; (focus exact rfl); (focus exact rfl); focus (intro _; (refine zM ?_); exact det_refl)
    first | (apply w_un; (focus exact rfl); (focus exact rfl); (focus exact rfl); (focus exact rfl)) | (apply w_no; (focus exact rfl); (focus exact rfl); (focus exact rfl); (focus exact rfl); focus (first | rfl | assumption | exact neg_t (by assumption) | exact neg_f (by assumption))) | (apply w_qg; (focus exact rfl); (focus exact rfl); (focus exact rfl); (focus exact rfl); (focus (first | rfl | assumption | exact neg_t (by assumption) | exact neg_f (by assumption))); (focus (intro _; (refine zM ?_); exact det_refl)))
    first | (apply w_un; (focus exact rfl); (focus exact rfl); (focus exact rfl); (focus exact rfl)) | (apply w_no; (focus exact rfl); (focus exact rfl); (focus exact rfl); (focus exact rfl); focus (first | rfl | assumption | exact neg_t (by assumption) | exact neg_f (by assumption))) | (apply w_qg; (focus exact rfl); (focus exact rfl); (focus exact rfl); (focus exact rfl); (focus (first | rfl | assumption | exact neg_t (by assumption) | exact neg_f (by assumption))); (focus (intro _; (refine zM ?_); exact det_refl)))
    first | (apply w_un; (focus exact rfl); (focus exact rfl); (focus exact rfl); (focus exact rfl)) | (apply w_no; (focus exact rfl); (focus exact rfl); (focus exact rfl); (focus exact rfl); focus (first | rfl | assumption | exact neg_t (by assumption) | exact neg_f (by assumption))) | (apply w_qg; (focus exact rfl); (focus exact rfl); (focus exact rfl); (focus exact rfl); (focus (first | rfl | assumption | exact neg_t (by assumption) | exact neg_f (by assumption))); (focus (intro _; (refine lo_call h9 rfl (by repeat (first | exact rzs_nil | apply rzs_cons | exact rz_c | exact rz_nil rfl | apply rz_agg | exact rz_own rfl | apply rz_fn | exact rz_ptr rfl | apply rz_tup)) ?_; rintro _ rfl); exact det_refl)))
    apply w_q; (focus exact rfl); (focus exact rfl); focus (intro _; (first | refine zPt ?_ | refine zPf ?_); exact det_refl)
    apply w_q; (focus exact rfl); (focus exact rfl); focus (intro _; (refine zM ?_); exact det_refl)
    first | (apply w_un; (focus exact rfl); (focus exact rfl); (focus exact rfl); (focus exact rfl)) | (apply w_no; (focus exact rfl); (focus exact rfl); (focus exact rfl); (focus exact rfl); focus (first | rfl | assumption | exact neg_t (by assumption) | exact neg_f (by assumption))) | (apply w_qg; (focus exact rfl); (focus exact rfl); (focus exact rfl); (focus exact rfl); (focus (first | rfl | assumption | exact neg_t (by assumption) | exact neg_f (by assumption))); (focus (intro _; (refine zM ?_); exact det_refl)))
    first | (apply w_un; (focus exact rfl); (focus exact rfl); (focus exact rfl); (focus exact rfl)) | (apply w_no; (focus exact rfl); (focus exact rfl); (focus exact rfl); (focus exact rfl); focus (first | rfl | assumption | exact neg_t (by assumption) | exact neg_f (by assumption))) | (apply w_qg; (focus exact rfl); (focus exact rfl); (focus exact rfl); (focus exact rfl); (focus (first | rfl | assumption | exact neg_t (by assumption) | exact neg_f (by assumption))); (focus (intro _; (refine zM ?_); exact det_refl)))
    first | (apply w_un; (focus exact rfl); (focus exact rfl); (focus exact rfl); (focus exact rfl)) | (apply w_no; (focus exact rfl); (focus exact rfl); (focus exact rfl); (focus exact rfl); focus (first | rfl | assumption | exact neg_t (by assumption) | exact neg_f (by assumption))) | (apply w_qg; (focus exact rfl); (focus exact rfl); (focus exact rfl); (focus exact rfl); (focus (first | rfl | assumption | exact neg_t (by assumption) | exact neg_f (by assumption))); (focus (intro _; (first | refine zC5 ?_ | refine zS5 ?_ | refine zQ1 ?_ | refine zQ2 ?_ | refine zQ3 ?_ | refine zQ4 ?_ | refine zQ5 ?_ | refine zQ6 ?_); exact det_refl)))
    apply w_q; (focus exact rfl); (focus exact rfl); focus (intro _; (first | refine zPt ?_ | refine zPf ?_); exact det_refl)
    apply w_q; (focus exact rfl); (focus exact rfl); focus (intro _; (refine zA ?_); exact det_refl)
    refine w_nil ?_
    repeat (first | refine zNil ?_ | refine zOp ?_ | refine zOpn ?_ | refine zNo ?_ | refine zNon ?_ | refine zUn ?_ | refine zUnn ?_ | refine zYes ?_ | refine zYesn ?_ | (refine zkL ?_; first | refine zL1 ?_ | refine zL2 ?_ | refine zL3 ?_ | refine zLp ?_) | refine zM ?_ | (refine zkF ?_; first | refine zF1 ?_ | refine zF2 ?_ | refine zF3 ?_) | refine zA ?_ | (refine zkB ?_; first | refine zC5 ?_ | refine zC6 ?_ | refine zC1 ?_ | refine zC2 ?_ | refine zC3 ?_ | refine zC4 ?_ | refine zS5 ?_ | refine zS6 ?_ | refine zS1 ?_ | refine zS2 ?_ | refine zS3 ?_ | refine zS4 ?_ | refine zInc ?_ | refine zQ1 ?_ | refine zQ2 ?_ | refine zQ3 ?_ | refine zQ4 ?_ | refine zQ5 ?_ | refine zQ6 ?_) | (refine zkI ?_; first | refine zN1 (fun hlen => ?_) | refine zN2 (fun hlen => ?_) | refine zN3 ?_ | refine zN4 ?_ | refine zAp (fun _ => ?_)) | refine zS ?_ | refine zAl (fun _ => ?_) | refine zBx (fun _ => ?_) | refine zPt ?_ | refine zPf ?_ | refine zE ?_ | refine zEA ?_ | refine zNot ?_ | refine zBd ?_ | refine zBs ?_ | refine zFn ?_ | refine zK1 ?_ | refine zK2 ?_ | refine ac_seq ?_ | refine ac_block ?_ | refine ac_region ?_ | refine ac_skip ?_ | refine ac_exit ?_ | refine ac_ret ?_ | refine zT ?_ | refine zF ?_)
    first | refine zR ?_ | refine zQ ?_
    simp only [e3]; rfl

end Go.Proofs.Ythgackidonocpaa
namespace Go.Proofs.Ythgackidonocpaa
open Go.ChangeShapes Go.WideShapes Go.ChangeAt Go.RowKit Go.Deep

theorem listN6 {α : Type} {l : List α} (h : l.length = 6) : ∃ a b c d e f, l = [a, b, c, d, e, f] := match l, h with | [a, b, c, d, e, f], _ => ⟨a, b, c, d, e, f, rfl⟩
def Lt.mass : Lt → Nat
  | .mk k fm tt n t v => far k + far fm + far tt + far n + t.size + v.mass
theorem Lt.mass_ok (x : Lt) (h : x.mass ≤ 1048576) : x.Small := by
  obtain ⟨k, fm, tt, n, t, v⟩ := x
  simp only [Lt.mass] at h
  obtain ⟨h1, h2⟩ := V.mass_ok v (by omega)
  have h3 := V.bytes_len v h1 (by omega) (by omega)
  refine ⟨h1, by simp only [Lt.val]; omega, by simp only [Lt.val]; omega, far_in (by omega), far_in (by omega), far_in (by omega), by omega⟩
section
variable {H : Type} {enc : TypeId × Value → H} {w : World} {base : Nat} {spare : Nat → Bool} {held : Bool}
theorem cn_let : Try.prog.cellsOf 38 = 9 := by kernel_rfl
theorem opensL (fuel : Nat) : Opens enc Try.prog w base spare held 38 Lt.ts Lt.mass fuel := by
  intro cs x h
  obtain ⟨ys, n, hn, rfl, hlen, hyl, hf⟩ := DataW.trod_struct Try.underlying38 h
  rw [cn_let] at hlen
  obtain ⟨y0, y1, y2, y3, y4, y5, rfl⟩ := listN6 hyl
  have f0 : DataW.trod enc Try.prog w base spare held n 3 ((cs.drop 0).take (Try.prog.cellsOf 3)) = some y0 := hf 0 _ rfl
  have f1 : DataW.trod enc Try.prog w base spare held n 3 ((cs.drop 1).take (Try.prog.cellsOf 3)) = some y1 := hf 1 _ rfl
  have f2 : DataW.trod enc Try.prog w base spare held n 3 ((cs.drop 2).take (Try.prog.cellsOf 3)) = some y2 := hf 2 _ rfl
  have f3 : DataW.trod enc Try.prog w base spare held n 3 ((cs.drop 3).take (Try.prog.cellsOf 3)) = some y3 := hf 3 _ rfl
  have f4 : DataW.trod enc Try.prog w base spare held n 9 ((cs.drop 4).take (Try.prog.cellsOf 9)) = some y4 := hf 4 _ rfl
  have f5 : DataW.trod enc Try.prog w base spare held n 24 ((cs.drop 5).take (Try.prog.cellsOf 24)) = some y5 := hf 5 _ rfl
  rw [cn_int] at f0 f1 f2 f3
  rw [cn_str] at f4
  rw [cn_val] at f5
  obtain ⟨a0, r0, o0, m0⟩ := opens_far Try.underlying3 _ _ f0
  obtain ⟨a1, r1, o1, m1⟩ := opens_far Try.underlying3 _ _ f1
  obtain ⟨a2, r2, o2, m2⟩ := opens_far Try.underlying3 _ _ f2
  obtain ⟨a3, r3, o3, m3⟩ := opens_far Try.underlying3 _ _ f3
  obtain ⟨a4, r4, o4, m4⟩ := opens_strz Try.underlying9 _ _ f4
  obtain ⟨a5, r5, o5, m5⟩ := opensV _ _ _ f5
  refine ⟨.mk a0 a1 a2 a3 a4 a5, ?_, ?_, ?_⟩
  · have := rts_seg r0 (rts_seg r1 (rts_seg r2 (rts_seg r3 (rts_seg r4 (rts_seg r5 (rts_end hlen))))))
    simpa [Lt.ts] using this
  · have := one_seg o0 (one_seg o1 (one_seg o2 (one_seg o3 (one_seg o4 (one_seg o5 (one_end hlen))))))
    simpa using this
  · simp only [Lt.mass, List.map_cons, List.map_nil, Rows.uptoBulk, Rows.uptoBulkAll] at m0 m1 m2 m3 m4 m5 ⊢
    omega
end

end Go.Proofs.Ythgackidonocpaa
namespace Go.Proofs.Ythgackidonocpaa.valueLetters
open Go.ChangeShapes Go.WideShapes Go.ChangeAt Go.RowKit

theorem valueLetters_up (x : Lt) (l : List UInt8) (h : x.mass ≤ 1048576) : AF Try.prog 5 [x.t, bytRow l] (· = .lit (.bool true)) :=
  valueLetters_law x l (Lt.mass_ok x h)

set_option maxRecDepth 100000 in
theorem contract (H : Type) (enc : TypeId × Value → H) (W : World) (base : Nat) (args : Array Value) (ds gs : List (DataW H)) (before : List MemPlace)
    (hval : ∀ (j : Nat) t v, Try.f5.params[j]? = some t → args[j]? = some v → Value.okWide Try.prog W .any base t v)
    (hW : DataW.Whole enc Try.prog Try.f5.params.toList Rows.valueLettersSpec.vars false W args.toList ds gs before) (hk : Rows.uptoSmall H (ds ++ gs) = true) :
    Calls Try.prog 5 args W fun e W' => ∃ v, e = .returned v ∧ Rows.valueLettersSpec.post enc Try.prog Try.f5 false true false false W args v W' := by
  have hW' := hW
  obtain ⟨p, q, hA0, hV, rfl, hfz, hnd⟩ := hW
  have hA : DataW.TrodAll enc Try.prog W 0 (fun _ => true) true Try.f5.params.toList args.toList ds p := hA0
  rw [Try.params5] at hA hval
  obtain ⟨v0, vs0, d0, ds0, p0, q0, hargs, rfl, rfl, h0, r0⟩ := trodAll_cons hA
  obtain ⟨v1, vs1, d1, ds1, p1, q1, rfl, rfl, rfl, h1, r1⟩ := trodAll_cons r0
  obtain ⟨rfl, rfl, rfl⟩ := trodAll_nil r1
  obtain rfl : args = #[v0, v1] := by cases args; simp_all
  obtain ⟨rfl, rfl⟩ := trodVars_none hV
  obtain ⟨c0, rfl, -⟩ := okWide_struct Try.underlying38 (hval 0 38 v0 rfl rfl)
  obtain ⟨a1, len1, cap1, rfl⟩ := okWide_slice Try.underlying27 (hval 1 27 v1 rfl rfl)
  obtain ⟨fuel0, hf0⟩ := h0
  obtain ⟨fuel1, hf1⟩ := h1
  obtain ⟨x, hs0, -, hb0⟩ := opensL _ _ _ hf0
  obtain ⟨l, hs1, -, hb1⟩ := opensB _ _ _ hf1
  have hkk : Rows.uptoBulkAll ([d0, d1] ++ []) ≤ 1048576 := of_decide_eq_true hk
  simp only [List.append_nil, Rows.uptoBulkAll] at hkk
  dsimp only at hb0 hb1
  clear hA0 hA hval hargs
  have haf := valueLetters_up x l (by omega)
  have hRT : RTs (memOf W) [x.t, bytRow l] [.agg c0, .slice a1 len1 cap1] := by
    simp only [RTs]
    refine ⟨_, _, rfl, ?_, _, _, rfl, ?_, rfl⟩
    · simp only [Lt.t, RT]
      exact ⟨c0.toList, by simp, by simpa [Value.cells] using hs0⟩
    · have h := hs1
      simp only [RTs] at h
      obtain ⟨x, r, hx, hr, hr2⟩ := h
      simp only [Value.cells] at hx
      injection (by simpa using hx : [_] = x :: r) with hx1 hx2
      rw [hx1]; exact hr
  refine (law_call haf hRT).mono fun e W' ⟨he, hb⟩ => ?_
  subst he
  exact ⟨_, rfl, law_post hW' rfl rfl (by kernel_rfl) rfl rfl rfl hb⟩

set_option maxRecDepth 100000 in
theorem lifted (os : Os) (started : os.Started) (H : Type) (enc : TypeId × Value → H) (F : Stop.Interp) :
    ReturnsInHanded {} Try.checked os 5 .any ((Rows.OpenSpec.upto Rows.valueLettersSpec).pre6 enc Try.prog Try.f5 Rows.valueLettersUptoRow.domain false) (((Rows.OpenSpec.upto Rows.valueLettersSpec).at F).post enc Try.prog Try.f5 false true false false) := by
  refine returnsInHanded_of_cond (C := Try.checked) (s := Rows.OpenSpec.upto Rows.valueLettersSpec) (k := Rows.uptoSmall) rfl own started (by kernel_rfl) Try.func5
    (OpenSpec.witness (enc := enc) (C := Try.checked) (s := Rows.OpenSpec.upto Rows.valueLettersSpec) (k := Rows.uptoSmall) rfl false ⟨#[], #[.agg #[.int .i64 0, .int .i64 0, .int .i64 0, .int .i64 0, .string ⟨#[]⟩, .int .i64 0, .int .i64 0, .string ⟨#[]⟩, .slice none 0 0], .slice none 0 0], []⟩ 8 (by kernel_rfl) (by kernel_rfl) (by kernel_rfl)
      (x := ([.agg [.lit (.int .i64 0), .lit (.int .i64 0), .lit (.int .i64 0), .lit (.int .i64 0), .lit (.string []), .agg [.lit (.int .i64 0), .lit (.int .i64 0), .lit (.string []), .nil]], .nil], [], [])) (by kernel_rfl) rfl (by kernel_rfl)) ?_
  intro W base args ds gs before hval hW _ hk _
  exact contract H enc W base args ds gs before hval hW hk

theorem proved : Rows.ValueLettersUptoSaid :=
  OpenClaim.holds_of_cond 5 Try.f5 rfl rfl rfl rfl rfl rfl rfl ⟨rfl, rfl, rfl, rfl, rfl⟩ rfl rfl rfl rfl rfl (by kernel_rfl) Try.func5 (by kernel_rfl)
    (of_decide_eq_true (by kernel_rfl)) (by unfold Func.isWrapper; first | (rw [if_pos (by decide +kernel)]; kernel_rfl) | (rw [if_neg (by decide +kernel)]; exact ⟨rfl, rfl⟩))
    (fun os started H enc _ F => lifted os started H enc F)

end Go.Proofs.Ythgackidonocpaa.valueLetters
