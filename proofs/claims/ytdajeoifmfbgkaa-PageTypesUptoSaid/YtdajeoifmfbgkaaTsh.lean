/-
  The walks of show.joined at api.Type.
-/
import Derived.Test.YtdajeoifmfbgkaaTtx
namespace Go.Proofs.Ytdajeoifmfbgkaa
open Go.RowKit

theorem len_mt {α β : Type} (f : α → β) {l : List α} {k : Nat} (h : k ≤ l.length) : ((l.take k).map f).length = k := by simp; omega
theorem len_ms {α β : Type} (f : α → β) {l : List α} {k : Nat} {a : α} (h : l[k]? = some a) : ((l.take (k + 1)).map f).length = ((l.take k).map f).length + 1 := by
  obtain ⟨h1, _⟩ := List.getElem?_eq_some_iff.1 h
  simp; omega
theorem str_snoc {α : Type} (f : α → ByteArray) {l : List α} {k : Nat} {a : α} (h : l[k]? = some a) : ((l.take (k + 1)).map f).flatMap strTs = ((l.take k).map f).flatMap strTs ++ [.lit (.string (f a))] := by
  obtain ⟨h1, rfl⟩ := List.getElem?_eq_some_iff.1 h
  rw [List.take_succ_eq_append_getElem h1, List.map_append, List.flatMap_append]; rfl

set_option maxRecDepth 100000 in
set_option maxHeartbeats 1000000 in
theorem joined_af (l : List Y) (hl : l.length ≤ 1048576) (hb : lensS (l.map Y.text) ≤ 1000000000) (hf : ∀ a ∈ l, AF Try.prog 106 [a.t] (· = .lit (.string a.text))) :
    AF Try.prog 145 [Y.row l, .fn (.func 106) []] (· = .lit (.string (joinS (l.map Y.text) ⟨#[44, 32]⟩))) := by
  have hj := join_af (l.map Y.text) ⟨#[44, 32]⟩ (by simp; omega) (by have := joinS_len (l.map Y.text); omega)
  refine af_enter tok Try.func145 Try.ntmps145 Try.results145 rfl (by kernel_rfl) rfl rfl fun F hX => ?_
  repeat (first | refine zNil ?_ | refine zOp ?_ | refine zOpn ?_ | refine zNo ?_ | refine zNon ?_ | refine zUn ?_ | refine zUnn ?_ | refine zYes ?_ | refine zYesn ?_ | (refine zkL ?_; first | refine zL1 ?_ | refine zL2 ?_ | refine zL3 ?_) | refine zM ?_ | (refine zkF ?_; first | refine zF1 ?_ | refine zF2 ?_ | refine zF3 ?_) | refine zA ?_ | (refine zkB ?_; first | refine zC5 ?_ | refine zC6 ?_ | refine zC1 ?_ | refine zC2 ?_ | refine zC3 ?_ | refine zC4 ?_ | refine zS5 ?_ | refine zS6 ?_ | refine zS1 ?_ | refine zS2 ?_ | refine zS3 ?_ | refine zS4 ?_ | refine zInc ?_) | (refine zkI ?_; first | refine zN1 (fun hlen => ?_) | refine zN2 (fun hlen => ?_) | refine zN3 ?_ | refine zN4 ?_ | refine zAp (fun _ => ?_)) | refine zS ?_ | refine zAl (fun _ => ?_) | refine zBx (fun _ => ?_) | refine zPt ?_ | refine zPf ?_ | refine zE ?_ | refine zEA ?_ | refine zNot ?_ | refine zBd ?_ | refine zBs ?_ | refine zFn ?_ | refine ac_seq ?_ | refine ac_block ?_ | refine ac_region ?_ | refine ac_skip ?_ | refine ac_exit ?_ | refine ac_ret ?_ | refine zT ?_ | refine zF ?_)
  refine x_own 5 9 1 rfl rfl rfl rfl rfl ?_
  refine x_loop [5, 7, 10, 11, 12, 13, 14, 15, 16, 17, 18, 19, 20] (fun y : Nat × Value => [(10, .c (.lit (.int .i64 y.1))), (5, .own 0 y.2)]) (fun y => [.row y.2 9 1 ((l.take y.1).map Y.text).length (((l.take y.1).map Y.text).flatMap strTs)]) (fun y => y.1 ≤ l.length) (fun y => l.length - y.1) (0, .slice none 0 0) (Nat.zero_le _) ⟨rfl, rfl, trivial⟩ rfl ?_
  rintro ⟨k, v⟩ hk
  dsimp only at hk ⊢
  have hlk := len_mt Y.text hk
  repeat (first | refine zNil ?_ | refine zOp ?_ | refine zOpn ?_ | refine zNo ?_ | refine zNon ?_ | refine zUn ?_ | refine zUnn ?_ | refine zYes ?_ | refine zYesn ?_ | (refine zkL ?_; first | refine zL1 ?_ | refine zL2 ?_ | refine zL3 ?_) | refine zM ?_ | (refine zkF ?_; first | refine zF1 ?_ | refine zF2 ?_ | refine zF3 ?_) | refine zA ?_ | (refine zkB ?_; first | refine zC5 ?_ | refine zC6 ?_ | refine zC1 ?_ | refine zC2 ?_ | refine zC3 ?_ | refine zC4 ?_ | refine zS5 ?_ | refine zS6 ?_ | refine zS1 ?_ | refine zS2 ?_ | refine zS3 ?_ | refine zS4 ?_ | refine zInc ?_) | (refine zkI ?_; first | refine zN1 (fun hlen => ?_) | refine zN2 (fun hlen => ?_) | refine zN3 ?_ | refine zN4 ?_ | refine zAp (fun _ => ?_)) | refine zS ?_ | refine zAl (fun _ => ?_) | refine zBx (fun _ => ?_) | refine zPt ?_ | refine zPf ?_ | refine zE ?_ | refine zEA ?_ | refine zNot ?_ | refine zBd ?_ | refine zBs ?_ | refine zFn ?_ | refine ac_seq ?_ | refine ac_block ?_ | refine ac_region ?_ | refine ac_skip ?_ | refine ac_exit ?_ | refine ac_ret ?_ | refine zT ?_ | refine zF ?_)
  refine x_cond rfl (fun h => ?_) (fun h => ?_)
  · have hk' : k < l.length := by simpa using h
    obtain ⟨a, ha⟩ := nth hk'
    have hfa := hf a (List.mem_of_getElem? ha)
    have hsn := str_snoc Y.text ha
    have hsl := len_ms Y.text ha
    repeat (first | refine zNil ?_ | refine zOp ?_ | refine zOpn ?_ | refine zNo ?_ | refine zNon ?_ | refine zUn ?_ | refine zUnn ?_ | refine zYes ?_ | refine zYesn ?_ | (refine zkL ?_; first | refine zL1 ?_ | refine zL2 ?_ | refine zL3 ?_) | refine zM ?_ | (refine zkF ?_; first | refine zF1 ?_ | refine zF2 ?_ | refine zF3 ?_) | refine zA ?_ | (refine zkB ?_; first | refine zC5 ?_ | refine zC6 ?_ | refine zC1 ?_ | refine zC2 ?_ | refine zC3 ?_ | refine zC4 ?_ | refine zS5 ?_ | refine zS6 ?_ | refine zS1 ?_ | refine zS2 ?_ | refine zS3 ?_ | refine zS4 ?_ | refine zInc ?_) | (refine zkI ?_; first | refine zN1 (fun hlen => ?_) | refine zN2 (fun hlen => ?_) | refine zN3 ?_ | refine zN4 ?_ | refine zAp (fun _ => ?_)) | refine zS ?_ | refine zAl (fun _ => ?_) | refine zBx (fun _ => ?_) | refine zPt ?_ | refine zPf ?_ | refine zE ?_ | refine zEA ?_ | refine zNot ?_ | refine zBd ?_ | refine zBs ?_ | refine zFn ?_ | refine ac_seq ?_ | refine ac_block ?_ | refine ac_region ?_ | refine ac_skip ?_ | refine ac_exit ?_ | refine ac_ret ?_ | refine zT ?_ | refine zF ?_)
    refine zIx (k) (hk') ?_
    repeat (first | refine zNil ?_ | refine zOp ?_ | refine zOpn ?_ | refine zNo ?_ | refine zNon ?_ | refine zUn ?_ | refine zUnn ?_ | refine zYes ?_ | refine zYesn ?_ | (refine zkL ?_; first | refine zL1 ?_ | refine zL2 ?_ | refine zL3 ?_) | refine zM ?_ | (refine zkF ?_; first | refine zF1 ?_ | refine zF2 ?_ | refine zF3 ?_) | refine zA ?_ | (refine zkB ?_; first | refine zC5 ?_ | refine zC6 ?_ | refine zC1 ?_ | refine zC2 ?_ | refine zC3 ?_ | refine zC4 ?_ | refine zS5 ?_ | refine zS6 ?_ | refine zS1 ?_ | refine zS2 ?_ | refine zS3 ?_ | refine zS4 ?_ | refine zInc ?_) | (refine zkI ?_; first | refine zN1 (fun hlen => ?_) | refine zN2 (fun hlen => ?_) | refine zN3 ?_ | refine zN4 ?_ | refine zAp (fun _ => ?_)) | refine zS ?_ | refine zAl (fun _ => ?_) | refine zBx (fun _ => ?_) | refine zPt ?_ | refine zPf ?_ | refine zE ?_ | refine zEA ?_ | refine zNot ?_ | refine zBd ?_ | refine zBs ?_ | refine zFn ?_ | refine ac_seq ?_ | refine ac_block ?_ | refine ac_region ?_ | refine ac_skip ?_ | refine ac_exit ?_ | refine ac_ret ?_ | refine zT ?_ | refine zF ?_)
    refine zEl (Y.at ha) (Y.ts_len a) ?_
    generalize Y.text a = ax at *
    obtain ⟨ka, ta, la⟩ := a
    repeat (first | refine zNil ?_ | refine zOp ?_ | refine zOpn ?_ | refine zNo ?_ | refine zNon ?_ | refine zUn ?_ | refine zUnn ?_ | refine zYes ?_ | refine zYesn ?_ | (refine zkL ?_; first | refine zL1 ?_ | refine zL2 ?_ | refine zL3 ?_) | refine zM ?_ | (refine zkF ?_; first | refine zF1 ?_ | refine zF2 ?_ | refine zF3 ?_) | refine zA ?_ | (refine zkB ?_; first | refine zC5 ?_ | refine zC6 ?_ | refine zC1 ?_ | refine zC2 ?_ | refine zC3 ?_ | refine zC4 ?_ | refine zS5 ?_ | refine zS6 ?_ | refine zS1 ?_ | refine zS2 ?_ | refine zS3 ?_ | refine zS4 ?_ | refine zInc ?_) | (refine zkI ?_; first | refine zN1 (fun hlen => ?_) | refine zN2 (fun hlen => ?_) | refine zN3 ?_ | refine zN4 ?_ | refine zAp (fun _ => ?_)) | refine zS ?_ | refine zAl (fun _ => ?_) | refine zBx (fun _ => ?_) | refine zPt ?_ | refine zPf ?_ | refine zE ?_ | refine zEA ?_ | refine zNot ?_ | refine zBd ?_ | refine zBs ?_ | refine zFn ?_ | refine ac_seq ?_ | refine ac_block ?_ | refine ac_region ?_ | refine ac_skip ?_ | refine ac_exit ?_ | refine ac_ret ?_ | refine zT ?_ | refine zF ?_)
    refine zCallc (hfa) ?_
    rintro _ rfl
    repeat (first | refine zNil ?_ | refine zOp ?_ | refine zOpn ?_ | refine zNo ?_ | refine zNon ?_ | refine zUn ?_ | refine zUnn ?_ | refine zYes ?_ | refine zYesn ?_ | (refine zkL ?_; first | refine zL1 ?_ | refine zL2 ?_ | refine zL3 ?_) | refine zM ?_ | (refine zkF ?_; first | refine zF1 ?_ | refine zF2 ?_ | refine zF3 ?_) | refine zA ?_ | (refine zkB ?_; first | refine zC5 ?_ | refine zC6 ?_ | refine zC1 ?_ | refine zC2 ?_ | refine zC3 ?_ | refine zC4 ?_ | refine zS5 ?_ | refine zS6 ?_ | refine zS1 ?_ | refine zS2 ?_ | refine zS3 ?_ | refine zS4 ?_ | refine zInc ?_) | (refine zkI ?_; first | refine zN1 (fun hlen => ?_) | refine zN2 (fun hlen => ?_) | refine zN3 ?_ | refine zN4 ?_ | refine zAp (fun _ => ?_)) | refine zS ?_ | refine zAl (fun _ => ?_) | refine zBx (fun _ => ?_) | refine zPt ?_ | refine zPf ?_ | refine zE ?_ | refine zEA ?_ | refine zNot ?_ | refine zBd ?_ | refine zBs ?_ | refine zFn ?_ | refine ac_seq ?_ | refine ac_block ?_ | refine ac_region ?_ | refine ac_skip ?_ | refine ac_exit ?_ | refine ac_ret ?_ | refine zT ?_ | refine zF ?_)
    exact ⟨(k + 1, _), hk', by simp only; omega, x_wkd 1 ⟨rfl, rfl, trivial⟩ (by simp only [hsn, hsl]; rfl) (by repeat (first | exact ag_refl | refine ag_upd rfl ?_ | refine ag_at rfl rfl ?_))⟩
  · have hk' : k = l.length := by have : ¬ k < l.length := by simpa using h
                                  omega
    subst hk'
    rw [List.take_length]
    repeat (first | refine zNil ?_ | refine zOp ?_ | refine zOpn ?_ | refine zNo ?_ | refine zNon ?_ | refine zUn ?_ | refine zUnn ?_ | refine zYes ?_ | refine zYesn ?_ | (refine zkL ?_; first | refine zL1 ?_ | refine zL2 ?_ | refine zL3 ?_) | refine zM ?_ | (refine zkF ?_; first | refine zF1 ?_ | refine zF2 ?_ | refine zF3 ?_) | refine zA ?_ | (refine zkB ?_; first | refine zC5 ?_ | refine zC6 ?_ | refine zC1 ?_ | refine zC2 ?_ | refine zC3 ?_ | refine zC4 ?_ | refine zS5 ?_ | refine zS6 ?_ | refine zS1 ?_ | refine zS2 ?_ | refine zS3 ?_ | refine zS4 ?_ | refine zInc ?_) | (refine zkI ?_; first | refine zN1 (fun hlen => ?_) | refine zN2 (fun hlen => ?_) | refine zN3 ?_ | refine zN4 ?_ | refine zAp (fun _ => ?_)) | refine zS ?_ | refine zAl (fun _ => ?_) | refine zBx (fun _ => ?_) | refine zPt ?_ | refine zPf ?_ | refine zE ?_ | refine zEA ?_ | refine zNot ?_ | refine zBd ?_ | refine zBs ?_ | refine zFn ?_ | refine ac_seq ?_ | refine ac_block ?_ | refine ac_region ?_ | refine ac_skip ?_ | refine ac_exit ?_ | refine ac_ret ?_ | refine zT ?_ | refine zF ?_)
    refine zPeek (hj) ?_
    rintro _ rfl
    refine ⟨rfl, ?_⟩
    repeat (first | refine zNil ?_ | refine zOp ?_ | refine zOpn ?_ | refine zNo ?_ | refine zNon ?_ | refine zUn ?_ | refine zUnn ?_ | refine zYes ?_ | refine zYesn ?_ | (refine zkL ?_; first | refine zL1 ?_ | refine zL2 ?_ | refine zL3 ?_) | refine zM ?_ | (refine zkF ?_; first | refine zF1 ?_ | refine zF2 ?_ | refine zF3 ?_) | refine zA ?_ | (refine zkB ?_; first | refine zC5 ?_ | refine zC6 ?_ | refine zC1 ?_ | refine zC2 ?_ | refine zC3 ?_ | refine zC4 ?_ | refine zS5 ?_ | refine zS6 ?_ | refine zS1 ?_ | refine zS2 ?_ | refine zS3 ?_ | refine zS4 ?_ | refine zInc ?_) | (refine zkI ?_; first | refine zN1 (fun hlen => ?_) | refine zN2 (fun hlen => ?_) | refine zN3 ?_ | refine zN4 ?_ | refine zAp (fun _ => ?_)) | refine zS ?_ | refine zAl (fun _ => ?_) | refine zBx (fun _ => ?_) | refine zPt ?_ | refine zPf ?_ | refine zE ?_ | refine zEA ?_ | refine zNot ?_ | refine zBd ?_ | refine zBs ?_ | refine zFn ?_ | refine ac_seq ?_ | refine ac_block ?_ | refine ac_region ?_ | refine ac_skip ?_ | refine ac_exit ?_ | refine ac_ret ?_ | refine zT ?_ | refine zF ?_)
    first | refine zR ?_ | refine zQ ?_
    rfl

end Go.Proofs.Ytdajeoifmfbgkaa
