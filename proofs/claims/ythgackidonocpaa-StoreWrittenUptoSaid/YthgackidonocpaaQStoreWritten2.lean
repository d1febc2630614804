/-
  Texts of this proof, part 2: Ab26 Ab20 Ab21 Ab22 Ab23 Tab Tuv Tv Tvp Tsm Tpb Tpr Twi Tap Tck Ttk Trt5 Ab24 Tvf0 Tvf Twb TlwA Tsv Tsd Tsw.
-/
import Derived.Test.YthgackidonocpaaQStoreWritten1
import Derived.Lib.AppendStr
import Derived.MapKept
import Derived.Test.YthgackidonocpaaProg
namespace Go.Proofs.Ythgackidonocpaa
open Go.RowKit
structure Hold (G : Prop) : Prop where
  out : G
/-- operations and control, asq far asq they are plain -/
theorem gG {G G' : Prop} (h : G') (e : Hold G' → G := by
    intro h
    first | refine zNil ?_ | refine zOp ?_ | refine zOpn ?_ | refine zNo ?_ | refine zNon ?_ | refine zUn ?_ | refine zUnn ?_ | refine zYes ?_ | refine zYesn ?_ | (refine zkL ?_; first | refine zL1 ?_ | refine zL2 ?_ | refine zL3 ?_ | refine zLp ?_) | refine zM ?_ | (refine zkF ?_; first | refine zF1 ?_ | refine zF2 ?_ | refine zF3 ?_) | refine zA ?_ | (refine zkB ?_; first | refine zC5 ?_ | refine zC6 ?_ | refine zC1 ?_ | refine zC2 ?_ | refine zC3 ?_ | refine zC4 ?_ | refine zS5 ?_ | refine zS6 ?_ | refine zS1 ?_ | refine zS2 ?_ | refine zS3 ?_ | refine zS4 ?_ | refine zInc ?_ | refine zQ1 ?_ | refine zQ2 ?_ | refine zQ3 ?_ | refine zQ4 ?_ | refine zQ5 ?_ | refine zQ6 ?_) | (refine zkI ?_; first | refine zN3 ?_ | refine zN4 ?_) | refine zS ?_ | refine zPt ?_ | refine zPf ?_ | refine zE ?_ | refine zEA ?_ | refine zNot ?_ | refine zBd ?_ | refine zFn ?_ | refine zK1 ?_ | refine zK2 ?_ | refine zBs ?_ | refine ac_seq ?_ | refine ac_block ?_ | refine ac_region ?_ | refine ac_skip ?_ | refine ac_exit ?_ | refine ac_ret ?_ | refine zT ?_ | refine zF ?_
    repeat (first | refine zNil ?_ | refine zOp ?_ | refine zOpn ?_ | refine zNo ?_ | refine zNon ?_ | refine zUn ?_ | refine zUnn ?_ | refine zYes ?_ | refine zYesn ?_ | (refine zkL ?_; first | refine zL1 ?_ | refine zL2 ?_ | refine zL3 ?_ | refine zLp ?_) | refine zM ?_ | (refine zkF ?_; first | refine zF1 ?_ | refine zF2 ?_ | refine zF3 ?_) | refine zA ?_ | (refine zkB ?_; first | refine zC5 ?_ | refine zC6 ?_ | refine zC1 ?_ | refine zC2 ?_ | refine zC3 ?_ | refine zC4 ?_ | refine zS5 ?_ | refine zS6 ?_ | refine zS1 ?_ | refine zS2 ?_ | refine zS3 ?_ | refine zS4 ?_ | refine zInc ?_ | refine zQ1 ?_ | refine zQ2 ?_ | refine zQ3 ?_ | refine zQ4 ?_ | refine zQ5 ?_ | refine zQ6 ?_) | (refine zkI ?_; first | refine zN3 ?_ | refine zN4 ?_) | refine zS ?_ | refine zPt ?_ | refine zPf ?_ | refine zE ?_ | refine zEA ?_ | refine zNot ?_ | refine zBd ?_ | refine zFn ?_ | refine zK1 ?_ | refine zK2 ?_ | refine zBs ?_ | refine ac_seq ?_ | refine ac_block ?_ | refine ac_region ?_ | refine ac_skip ?_ | refine ac_exit ?_ | refine ac_ret ?_ | refine zT ?_ | refine zF ?_)
    exact h.out) : G := e ⟨h⟩
/-- the same, but no rows that are written out -/
theorem gX {G G' : Prop} (h : G') (e : Hold G' → G := by
    intro h
    first | refine zNil ?_ | refine zOp ?_ | refine zOpn ?_ | refine zNo ?_ | refine zNon ?_ | refine zUn ?_ | refine zUnn ?_ | refine zYes ?_ | refine zYesn ?_ | (refine zkL ?_; first | refine zL1 ?_ | refine zL2 ?_ | refine zL3 ?_ | refine zLp ?_) | refine zM ?_ | (refine zkF ?_; first | refine zF1 ?_ | refine zF2 ?_ | refine zF3 ?_) | refine zA ?_ | (refine zkB ?_; first | refine zC5 ?_ | refine zC6 ?_ | refine zC1 ?_ | refine zC2 ?_ | refine zC3 ?_ | refine zC4 ?_ | refine zS5 ?_ | refine zS6 ?_ | refine zS1 ?_ | refine zS2 ?_ | refine zS3 ?_ | refine zS4 ?_ | refine zInc ?_ | refine zQ1 ?_ | refine zQ2 ?_ | refine zQ3 ?_ | refine zQ4 ?_ | refine zQ5 ?_ | refine zQ6 ?_) | (refine zkI ?_; first | refine zN3 ?_ | refine zN4 ?_) | refine zS ?_ | refine zPt ?_ | refine zPf ?_ | refine zE ?_ | refine zEA ?_ | refine zNot ?_ | refine zBd ?_ | refine zFn ?_ | refine zK1 ?_ | refine zK2 ?_ | refine ac_seq ?_ | refine ac_block ?_ | refine ac_region ?_ | refine ac_skip ?_ | refine ac_exit ?_ | refine ac_ret ?_ | refine zT ?_ | refine zF ?_
    repeat (first | refine zNil ?_ | refine zOp ?_ | refine zOpn ?_ | refine zNo ?_ | refine zNon ?_ | refine zUn ?_ | refine zUnn ?_ | refine zYes ?_ | refine zYesn ?_ | (refine zkL ?_; first | refine zL1 ?_ | refine zL2 ?_ | refine zL3 ?_ | refine zLp ?_) | refine zM ?_ | (refine zkF ?_; first | refine zF1 ?_ | refine zF2 ?_ | refine zF3 ?_) | refine zA ?_ | (refine zkB ?_; first | refine zC5 ?_ | refine zC6 ?_ | refine zC1 ?_ | refine zC2 ?_ | refine zC3 ?_ | refine zC4 ?_ | refine zS5 ?_ | refine zS6 ?_ | refine zS1 ?_ | refine zS2 ?_ | refine zS3 ?_ | refine zS4 ?_ | refine zInc ?_ | refine zQ1 ?_ | refine zQ2 ?_ | refine zQ3 ?_ | refine zQ4 ?_ | refine zQ5 ?_ | refine zQ6 ?_) | (refine zkI ?_; first | refine zN3 ?_ | refine zN4 ?_) | refine zS ?_ | refine zPt ?_ | refine zPf ?_ | refine zE ?_ | refine zEA ?_ | refine zNot ?_ | refine zBd ?_ | refine zFn ?_ | refine zK1 ?_ | refine zK2 ?_ | refine ac_seq ?_ | refine ac_block ?_ | refine ac_region ?_ | refine ac_skip ?_ | refine ac_exit ?_ | refine ac_ret ?_ | refine zT ?_ | refine zF ?_)
    exact h.out) : G := e ⟨h⟩
/-- operations alone -/
theorem gO {G G' : Prop} (h : G') (e : Hold G' → G := by
    intro h
    first | refine zNil ?_ | refine zOp ?_ | refine zOpn ?_ | refine zNo ?_ | refine zNon ?_ | refine zUn ?_ | refine zUnn ?_ | refine zYes ?_ | refine zYesn ?_ | (refine zkL ?_; first | refine zL1 ?_ | refine zL2 ?_ | refine zL3 ?_ | refine zLp ?_) | refine zM ?_ | (refine zkF ?_; first | refine zF1 ?_ | refine zF2 ?_ | refine zF3 ?_) | refine zA ?_ | (refine zkB ?_; first | refine zC5 ?_ | refine zC6 ?_ | refine zC1 ?_ | refine zC2 ?_ | refine zC3 ?_ | refine zC4 ?_ | refine zS5 ?_ | refine zS6 ?_ | refine zS1 ?_ | refine zS2 ?_ | refine zS3 ?_ | refine zS4 ?_ | refine zInc ?_ | refine zQ1 ?_ | refine zQ2 ?_ | refine zQ3 ?_ | refine zQ4 ?_ | refine zQ5 ?_ | refine zQ6 ?_) | (refine zkI ?_; first | refine zN3 ?_ | refine zN4 ?_) | refine zS ?_ | refine zPt ?_ | refine zPf ?_ | refine zE ?_ | refine zEA ?_ | refine zNot ?_ | refine zBd ?_ | refine zFn ?_ | refine zK1 ?_ | refine zK2 ?_ | refine zBs ?_
    repeat (first | refine zNil ?_ | refine zOp ?_ | refine zOpn ?_ | refine zNo ?_ | refine zNon ?_ | refine zUn ?_ | refine zUnn ?_ | refine zYes ?_ | refine zYesn ?_ | (refine zkL ?_; first | refine zL1 ?_ | refine zL2 ?_ | refine zL3 ?_ | refine zLp ?_) | refine zM ?_ | (refine zkF ?_; first | refine zF1 ?_ | refine zF2 ?_ | refine zF3 ?_) | refine zA ?_ | (refine zkB ?_; first | refine zC5 ?_ | refine zC6 ?_ | refine zC1 ?_ | refine zC2 ?_ | refine zC3 ?_ | refine zC4 ?_ | refine zS5 ?_ | refine zS6 ?_ | refine zS1 ?_ | refine zS2 ?_ | refine zS3 ?_ | refine zS4 ?_ | refine zInc ?_ | refine zQ1 ?_ | refine zQ2 ?_ | refine zQ3 ?_ | refine zQ4 ?_ | refine zQ5 ?_ | refine zQ6 ?_) | (refine zkI ?_; first | refine zN3 ?_ | refine zN4 ?_) | refine zS ?_ | refine zPt ?_ | refine zPf ?_ | refine zE ?_ | refine zEA ?_ | refine zNot ?_ | refine zBd ?_ | refine zFn ?_ | refine zK1 ?_ | refine zK2 ?_ | refine zBs ?_)
    exact h.out) : G := e ⟨h⟩
/-- operations of a region that draws, asq long asq they only look -/
theorem gW {G G' : Prop} (h : G') (e : Hold G' → G := by
    intro h
    first | (apply w_q; (focus exact rfl); (focus exact rfl); focus (intro _; (first | (refine zkL ?_; first | refine zL1 ?_ | refine zL2 ?_ | refine zL3 ?_ | refine zLp ?_) | refine zM ?_ | (refine zkF ?_; first | refine zF1 ?_ | refine zF2 ?_ | refine zF3 ?_) | refine zA ?_ | (refine zkB ?_; first | refine zC5 ?_ | refine zC6 ?_ | refine zC1 ?_ | refine zC2 ?_ | refine zC3 ?_ | refine zC4 ?_ | refine zS5 ?_ | refine zS6 ?_ | refine zS1 ?_ | refine zS2 ?_ | refine zS3 ?_ | refine zS4 ?_ | refine zInc ?_ | refine zQ1 ?_ | refine zQ2 ?_ | refine zQ3 ?_ | refine zQ4 ?_ | refine zQ5 ?_ | refine zQ6 ?_) | (refine zkI ?_; first | refine zN3 ?_ | refine zN4 ?_) | refine zPt ?_ | refine zPf ?_ | refine zE ?_ | refine zEA ?_ | refine zNot ?_ | refine zBd ?_ | refine zBs ?_ | refine zFn ?_ | refine zK1 ?_ | refine zK2 ?_ | (refine zkI ?_; first | refine zN1 (fun _ => ?_) | refine zN2 (fun _ => ?_))); exact det_refl)) | (apply w_p; (focus exact rfl); (focus exact rfl); focus (intro _; (first | (refine zkL ?_; first | refine zL1 ?_ | refine zL2 ?_ | refine zL3 ?_ | refine zLp ?_) | refine zM ?_ | (refine zkF ?_; first | refine zF1 ?_ | refine zF2 ?_ | refine zF3 ?_) | refine zA ?_ | (refine zkB ?_; first | refine zC5 ?_ | refine zC6 ?_ | refine zC1 ?_ | refine zC2 ?_ | refine zC3 ?_ | refine zC4 ?_ | refine zS5 ?_ | refine zS6 ?_ | refine zS1 ?_ | refine zS2 ?_ | refine zS3 ?_ | refine zS4 ?_ | refine zInc ?_ | refine zQ1 ?_ | refine zQ2 ?_ | refine zQ3 ?_ | refine zQ4 ?_ | refine zQ5 ?_ | refine zQ6 ?_) | (refine zkI ?_; first | refine zN3 ?_ | refine zN4 ?_) | refine zPt ?_ | refine zPf ?_ | refine zE ?_ | refine zEA ?_ | refine zNot ?_ | refine zBd ?_ | refine zBs ?_ | refine zFn ?_ | refine zK1 ?_ | refine zK2 ?_ | (refine zkI ?_; first | refine zN1 (fun _ => ?_) | refine zN2 (fun _ => ?_))); exact det_refl)) | (apply w_un; (focus exact rfl); (focus exact rfl); (focus exact rfl); (focus exact rfl)) | (apply w_no; (focus exact rfl); (focus exact rfl); (focus exact rfl); (focus exact rfl); focus (first | rfl | assumption | exact neg_t (by assumption) | exact neg_f (by assumption))) | (apply w_qg; (focus exact rfl); (focus exact rfl); (focus exact rfl); (focus exact rfl); (focus (first | rfl | assumption | exact neg_t (by assumption) | exact neg_f (by assumption))); (focus (intro _; (first | (refine zkL ?_; first | refine zL1 ?_ | refine zL2 ?_ | refine zL3 ?_ | refine zLp ?_) | refine zM ?_ | (refine zkF ?_; first | refine zF1 ?_ | refine zF2 ?_ | refine zF3 ?_) | refine zA ?_ | (refine zkB ?_; first | refine zC5 ?_ | refine zC6 ?_ | refine zC1 ?_ | refine zC2 ?_ | refine zC3 ?_ | refine zC4 ?_ | refine zS5 ?_ | refine zS6 ?_ | refine zS1 ?_ | refine zS2 ?_ | refine zS3 ?_ | refine zS4 ?_ | refine zInc ?_ | refine zQ1 ?_ | refine zQ2 ?_ | refine zQ3 ?_ | refine zQ4 ?_ | refine zQ5 ?_ | refine zQ6 ?_) | (refine zkI ?_; first | refine zN3 ?_ | refine zN4 ?_) | refine zPt ?_ | refine zPf ?_ | refine zE ?_ | refine zEA ?_ | refine zNot ?_ | refine zBd ?_ | refine zBs ?_ | refine zFn ?_ | refine zK1 ?_ | refine zK2 ?_ | (refine zkI ?_; first | refine zN1 (fun _ => ?_) | refine zN2 (fun _ => ?_))); exact det_refl)))
    repeat (first | (apply w_q; (focus exact rfl); (focus exact rfl); focus (intro _; (first | (refine zkL ?_; first | refine zL1 ?_ | refine zL2 ?_ | refine zL3 ?_ | refine zLp ?_) | refine zM ?_ | (refine zkF ?_; first | refine zF1 ?_ | refine zF2 ?_ | refine zF3 ?_) | refine zA ?_ | (refine zkB ?_; first | refine zC5 ?_ | refine zC6 ?_ | refine zC1 ?_ | refine zC2 ?_ | refine zC3 ?_ | refine zC4 ?_ | refine zS5 ?_ | refine zS6 ?_ | refine zS1 ?_ | refine zS2 ?_ | refine zS3 ?_ | refine zS4 ?_ | refine zInc ?_ | refine zQ1 ?_ | refine zQ2 ?_ | refine zQ3 ?_ | refine zQ4 ?_ | refine zQ5 ?_ | refine zQ6 ?_) | (refine zkI ?_; first | refine zN3 ?_ | refine zN4 ?_) | refine zPt ?_ | refine zPf ?_ | refine zE ?_ | refine zEA ?_ | refine zNot ?_ | refine zBd ?_ | refine zBs ?_ | refine zFn ?_ | refine zK1 ?_ | refine zK2 ?_ | (refine zkI ?_; first | refine zN1 (fun _ => ?_) | refine zN2 (fun _ => ?_))); exact det_refl)) | (apply w_p; (focus exact rfl); (focus exact rfl); focus (intro _; (first | (refine zkL ?_; first | refine zL1 ?_ | refine zL2 ?_ | refine zL3 ?_ | refine zLp ?_) | refine zM ?_ | (refine zkF ?_; first | refine zF1 ?_ | refine zF2 ?_ | refine zF3 ?_) | refine zA ?_ | (refine zkB ?_; first | refine zC5 ?_ | refine zC6 ?_ | refine zC1 ?_ | refine zC2 ?_ | refine zC3 ?_ | refine zC4 ?_ | refine zS5 ?_ | refine zS6 ?_ | refine zS1 ?_ | refine zS2 ?_ | refine zS3 ?_ | refine zS4 ?_ | refine zInc ?_ | refine zQ1 ?_ | refine zQ2 ?_ | refine zQ3 ?_ | refine zQ4 ?_ | refine zQ5 ?_ | refine zQ6 ?_) | (refine zkI ?_; first | refine zN3 ?_ | refine zN4 ?_) | refine zPt ?_ | refine zPf ?_ | refine zE ?_ | refine zEA ?_ | refine zNot ?_ | refine zBd ?_ | refine zBs ?_ | refine zFn ?_ | refine zK1 ?_ | refine zK2 ?_ | (refine zkI ?_; first | refine zN1 (fun _ => ?_) | refine zN2 (fun _ => ?_))); exact det_refl)) | (apply w_un; (focus exact rfl); (focus exact rfl); (focus exact rfl); (focus exact rfl)) | (apply w_no; (focus exact rfl); (focus exact rfl); (focus exact rfl); (focus exact rfl); focus (first | rfl | assumption | exact neg_t (by assumption) | exact neg_f (by assumption))) | (apply w_qg; (focus exact rfl); (focus exact rfl); (focus exact rfl); (focus exact rfl); (focus (first | rfl | assumption | exact neg_t (by assumption) | exact neg_f (by assumption))); (focus (intro _; (first | (refine zkL ?_; first | refine zL1 ?_ | refine zL2 ?_ | refine zL3 ?_ | refine zLp ?_) | refine zM ?_ | (refine zkF ?_; first | refine zF1 ?_ | refine zF2 ?_ | refine zF3 ?_) | refine zA ?_ | (refine zkB ?_; first | refine zC5 ?_ | refine zC6 ?_ | refine zC1 ?_ | refine zC2 ?_ | refine zC3 ?_ | refine zC4 ?_ | refine zS5 ?_ | refine zS6 ?_ | refine zS1 ?_ | refine zS2 ?_ | refine zS3 ?_ | refine zS4 ?_ | refine zInc ?_ | refine zQ1 ?_ | refine zQ2 ?_ | refine zQ3 ?_ | refine zQ4 ?_ | refine zQ5 ?_ | refine zQ6 ?_) | (refine zkI ?_; first | refine zN3 ?_ | refine zN4 ?_) | refine zPt ?_ | refine zPf ?_ | refine zE ?_ | refine zEA ?_ | refine zNot ?_ | refine zBd ?_ | refine zBs ?_ | refine zFn ?_ | refine zK1 ?_ | refine zK2 ?_ | (refine zkI ?_; first | refine zN1 (fun _ => ?_) | refine zN2 (fun _ => ?_))); exact det_refl))))
    exact h.out) : G := e ⟨h⟩
end Go.Proofs.Ythgackidonocpaa
namespace Go.Proofs.Ythgackidonocpaa
open Go.RowKit
theorem HeapOk.take {F : Frm} {M : Mm} {hp : List Blk} {w : World} (h : HeapOk F M hp w) (k : Nat) : HeapOk F M (hp.take k) w := by
  have hg : ∀ (i : Nat) (x : Blk), (hp.take k)[i]? = some x → hp[i]? = some x := by
    intro i x hx
    rw [List.getElem?_take] at hx
    split at hx
    · exact hx
    · cases hx
  exact ⟨h.mem, h.ext, h.frm, fun i x hx => h.at_ i x (hg i x hx), fun i j x y b hx hy => h.sep i j x y b (hg i x hx) (hg j y hy), fun i x b hx => h.out i x b (hg i x hx)⟩
/-- the function, given values that read so and blocks of the caller's own, returns a value that reads so, the blocks turned -/
def AG (P : Program) (f : FuncId) (asq : List AV) (hs : List Blk) (R : AV → List Blk → Prop) : Prop :=
  Enters P f ∧ ∀ (F : Frm) (M : Mm) (w : World) (vs : List Value), HeapOk F M hs w → RAs M asq vs →
    Calls P f vs.toArray w fun e w' => ∃ v r hs' M', e = .returned v ∧ R r hs' ∧ Ext F.may M M' ∧ HeapOk F M' hs' w' ∧ RA M' r v
theorem AG.imp {P : Program} {f : FuncId} {asq : List AV} {hs : List Blk} {R R' : AV → List Blk → Prop} (h : AG P f asq hs R) (hi : ∀ r hs, R r hs → R' r hs) : AG P f asq hs R' :=
  ⟨h.1, fun F M w vs hM hv => (h.2 F M w vs hM hv).mono fun _ _ ⟨v, r, hs', M', h1, h2, h3⟩ => ⟨v, r, hs', M', h1, hi r hs' h2, h3⟩⟩
/-- the end of such a function: the first k blocks are handed back -/
structure FinG (L : Tab) (res : List ResultVar) (k : Nat) (R : AV → List Blk → Prop) (e : Exit) (σ : AS) : Prop where
  out : (e = .normal ∨ e = .ret) ∧ ∃ vs, OutsA L σ res vs ∧ R (outA vs) (σ.hp.take k)
section
variable {P : Program} {F : Frm} {L : Tab}
theorem ag_enter {f : FuncId} {fn : Func} {c : Code} {asq : List AV} {hs : List Blk} {R : AV → List Blk → Prop} {N : Nat} {res : List ResultVar} (k : Nat) (hL : TabOk P L) (hf : P.funcs[f]? = some fn) (hNt : fn.ntmps = N) (hres : fn.results = res.toArray) (hb : fn.body = some c) (hn : (fn.name == "runtime.NumGoroutine") = false) (hN : Nat.ble asq.length N = true)
    (h : ∀ F, AC P F c (FinG L res k R) ⟨initT N asq, hs, N⟩) : AG P f asq hs R := by
  refine ⟨⟨fn, hf, hn, by rw [hb]; rfl⟩, fun F M w vs hh hav => ?_⟩
  have hlen := hav.len
  have hNl := Nat.le_of_ble_eq_true hN
  refine calls_of_wp hf hb (wp_mono ((h ⟨F.w0, F.X, M⟩).out M _ w ⟨?_, ?_, rfl, ⟨hh.mem, Ext.refl _ _, ⟨hh.frm.os, hh.frm.tape, hh.frm.output, hh.frm.size, hh.frm.block⟩, hh.at_, hh.sep, hh.out⟩⟩) ?_)
  · intro i
    simp only [initT]
    by_cases hi : i < asq.length
    · have : Nat.blt i N = true := Nat.ble_eq_true_of_le (by omega)
      rw [this, cond_true]
      have h1 : asq[i]? = some asq[i] := List.getElem?_eq_getElem hi
      obtain ⟨x, hx, hra⟩ := hav.get h1
      rw [List.getD_eq_getElem?_getD, h1]
      have h2 : i < vs.length := by omega
      have h3 : vs[i] = x := by rw [List.getElem?_eq_getElem h2] at hx; injection hx
      simp [Array.getD_eq_getD_getElem?, Array.getElem?_append, h2, h3]
      exact hra
    · have h1 : asq.getD i (.c (.lit undef)) = .c (.lit undef) := by
        rw [List.getD_eq_getElem?_getD, List.getElem?_eq_none (by omega)]; rfl
      rw [h1]
      have h2 : ¬ i < vs.length := by omega
      have h3 : (vs.toArray ++ Array.replicate (fn.ntmps - vs.toArray.size) undef).getD i undef = undef := by
        simp [Array.getD_eq_getD_getElem?, Array.getElem?_append, h2, Array.getElem?_replicate]
        split <;> rfl
      rw [h3]
      cases Nat.blt i N <;> simp only [cond_true, cond_false, RA, RT]
  · simp [hNt]; omega
  · rintro e' a' w' ⟨M', σ', ⟨⟨he', vs', ho, hK⟩⟩, hr⟩
    rw [show res = fn.results.toList by rw [hres]] at ho
    obtain ⟨u, hu', hRA⟩ := resultsA_sound hL hr ho
    have hx : Ext F.may M M' := hr.heap.ext
    have hh' : HeapOk F M' σ'.hp w' := ⟨hr.heap.mem, hh.ext.trans hx, ⟨hr.heap.frm.os, hr.heap.frm.tape, hr.heap.frm.output, hr.heap.frm.size, hr.heap.frm.block⟩, hr.heap.at_, hr.heap.sep, hr.heap.out⟩
    have hfin : a'.defers = [] ∧ ∃ v, (results fn a'.tmps).run P w' = .ok v w' ∧ ∃ v' r hs' M', Ending.returned v = .returned v' ∧ R r hs' ∧ Ext F.may M M' ∧ HeapOk F M' hs' w' ∧ RA M' r v' :=
      ⟨hr.defers, u, hu', u, outA vs', σ'.hp.take k, M', rfl, hK, hx, hh'.take k, hRA⟩
    rcases he' with rfl | rfl <;> exact hfin
end
def selB (hp : List Blk) : List Nat → Option (List Blk)
  | [] => some []
  | i :: is => match hp[i]?, selB hp is with | some x, some r => some (x :: r) | _, _ => none
def freshB : List Nat → Bool
  | [] => true
  | i :: is => !is.contains i && freshB is
def putB (hp : List Blk) : List Nat → List Blk → List Blk
  | [], hs => hp ++ hs
  | _ :: _, [] => hp
  | i :: is, x :: hs => (putB hp is hs).set i x
def posB (hp : List Blk) (sel : List Nat) (i : Nat) : Nat := match sel[i]? with | some j => j | none => hp.length + (i - sel.length)
theorem selB_get {hp : List Blk} : ∀ {sel : List Nat} {hs : List Blk}, selB hp sel = some hs → ∀ {i : Nat} {x : Blk}, hs[i]? = some x → ∃ j : Nat, sel[i]? = some j ∧ hp[j]? = some x
  | [], hs, h, i, x, hx => by simp only [selB, Option.some.injEq] at h; subst h; simp at hx
  | k :: is, hs, h, i, x, hx => by
    simp only [selB] at h
    cases h1 : hp[k]? with
    | none => rw [h1] at h; cases h
    | some y =>
      cases h2 : selB hp is with
      | none => rw [h1, h2] at h; cases h
      | some r =>
        rw [h1, h2] at h
        simp only [Option.some.injEq] at h
        subst h
        cases i with
        | zero => simp only [List.getElem?_cons_zero, Option.some.injEq] at hx; subst hx; exact ⟨k, rfl, h1⟩
        | succ i => obtain ⟨j, h3, h4⟩ := selB_get h2 (i := i) (by simpa using hx); exact ⟨j, by simpa using h3, h4⟩
theorem freshB_inj : ∀ {sel : List Nat}, freshB sel = true → ∀ {i i' j : Nat}, sel[i]? = some j → sel[i']? = some j → i = i'
  | [], _, i, i', j, h, _ => by simp at h
  | k :: is, hf, i, i', j, h, h' => by
    simp only [freshB, Bool.and_eq_true, Bool.not_eq_true', List.contains_eq_mem, decide_eq_false_iff_not] at hf
    cases i with
    | zero =>
      simp only [List.getElem?_cons_zero, Option.some.injEq] at h
      cases i' with
      | zero => rfl
      | succ i' => simp only [List.getElem?_cons_succ] at h'; exact absurd (h ▸ List.mem_of_getElem? h') hf.1
    | succ i =>
      simp only [List.getElem?_cons_succ] at h
      cases i' with
      | zero => simp only [List.getElem?_cons_zero, Option.some.injEq] at h'; exact absurd (h' ▸ List.mem_of_getElem? h) hf.1
      | succ i' => simp only [List.getElem?_cons_succ] at h'; rw [freshB_inj hf.2 h h']
theorem putB_get {hp : List Blk} : ∀ {sel : List Nat} {hs : List Blk}, sel.length ≤ hs.length → ∀ {j : Nat} {x : Blk}, (putB hp sel hs)[j]? = some x → (∃ i, j = posB hp sel i ∧ hs[i]? = some x) ∨ (hp[j]? = some x ∧ j ∉ sel)
  | [], hs, _, j, x, h => by
    simp only [putB] at h
    rcases Nat.lt_or_ge j hp.length with hj | hj
    · rw [List.getElem?_append_left hj] at h
      exact .inr ⟨h, by simp⟩
    · rw [List.getElem?_append_right hj] at h
      exact .inl ⟨j - hp.length, by simp only [posB, List.getElem?_nil, List.length_nil]; omega, h⟩
  | k :: is, [], hl, _, _, _ => by simp at hl
  | k :: is, y :: hs, hl, j, x, h => by
    simp only [putB, List.getElem?_set] at h
    split at h
    · rename_i hkj
      subst hkj
      split at h
      · exact .inl ⟨0, rfl, by simpa using h⟩
      · cases h
    · rename_i hkj
      rcases putB_get (by simpa using hl) h with ⟨i, h1, h2⟩ | ⟨h1, h2⟩
      · refine .inl ⟨i + 1, ?_, by simpa using h2⟩
        rw [h1]
        simp only [posB, List.getElem?_cons_succ, List.length_cons]
        split <;> omega
      · exact .inr ⟨h1, by simp [h2, Ne.symm hkj]⟩
def subF (M : Mm) (hs : List Blk) (w : World) : Frm := ⟨w, fun b => ∃ (i : Nat) (x : Blk), hs[i]? = some x ∧ x.blk = some b, M⟩
theorem heap_sel {F : Frm} {M : Mm} {hp hs : List Blk} {w : World} {sel : List Nat} (h : HeapOk F M hp w) (hs' : selB hp sel = some hs) (hf : freshB sel = true) : HeapOk (subF M hs w) M hs w := by
  refine ⟨h.mem, Ext.refl _ _, ⟨rfl, rfl, rfl, Nat.le_refl _, fun _ _ _ => rfl⟩, fun i x hx => ?_, fun i j x y b hx hy hxb hyb => ?_, fun i x b hx hxb => ?_⟩
  · obtain ⟨j, _, h2⟩ := selB_get hs' hx
    exact h.at_ j x h2
  · obtain ⟨k, h1, h2⟩ := selB_get hs' hx
    obtain ⟨k', h3, h4⟩ := selB_get hs' hy
    have := h.sep k k' x y b h2 h4 hxb hyb
    subst this
    exact freshB_inj hf h1 h3
  · obtain ⟨j, _, h2⟩ := selB_get hs' hx
    exact ⟨.inl ⟨i, x, hx, hxb⟩, (h.out j x b h2 hxb).2⟩
theorem sub_may {F : Frm} {M : Mm} {hp hs : List Blk} {w : World} {sel : List Nat} (h : HeapOk F M hp w) (hs' : selB hp sel = some hs) (b : Nat) (hb : (subF M hs w).may b) : F.may b := by
  rcases hb with ⟨i, x, hx, hxb⟩ | hb
  · obtain ⟨j, _, h2⟩ := selB_get hs' hx
    exact (h.out j x b h2 hxb).1
  · exact .inr (Nat.le_trans h.frm.size hb)
theorem heap_put {F : Frm} {M M' : Mm} {hp hs hs2 : List Blk} {w w' : World} {sel : List Nat} (h : HeapOk F M hp w) (hsl : selB hp sel = some hs) (hl : sel.length ≤ hs2.length) (h2 : HeapOk (subF M hs w) M' hs2 w') : HeapOk F M' (putB hp sel hs2) w' := by
  have hM : Ext (subF M hs w).may M M' := h2.ext
  have hX : ∀ b, (subF M hs w).X b → ∃ (j : Nat) (x : Blk), j ∈ sel ∧ hp[j]? = some x ∧ x.blk = some b := by
    rintro b ⟨i, x, hx, hb⟩
    obtain ⟨j, h3, h4⟩ := selB_get hsl hx
    exact ⟨j, x, List.mem_of_getElem? h3, h4, hb⟩
  have hold : ∀ (j : Nat) (x : Blk) (b : Nat), hp[j]? = some x → j ∉ sel → x.blk = some b → b < w.heap.size ∧ ¬ (subF M hs w).X b := by
    intro j x b hx hj hb
    refine ⟨(h.at_ j x hx).lt hb, fun hXb => ?_⟩
    obtain ⟨k, y, hk, hy, hyb⟩ := hX b hXb
    have := h.sep j k x y b hx hy hb hyb
    subst this
    exact hj hk
  refine ⟨h2.mem, h.ext.trans (hM.to (sub_may h hsl)), ⟨h2.frm.os.trans h.frm.os, h2.frm.tape.trans h.frm.tape, h2.frm.output.trans h.frm.output, Nat.le_trans h.frm.size h2.frm.size, fun b hb hnX => ?_⟩, fun j x hx => ?_, fun j k x y b hx hy hxb hyb => ?_, fun j x b hx hxb => ?_⟩
  · refine (h2.frm.block b (Nat.lt_of_lt_of_le hb h.frm.size) fun hXb => ?_).trans (h.frm.block b hb hnX)
    obtain ⟨k, y, _, hy, hyb⟩ := hX b hXb
    rcases (h.out k y b hy hyb).1 with h3 | h3
    · exact hnX h3
    · omega
  · rcases putB_get hl hx with ⟨i, _, hi⟩ | ⟨hj, hns⟩
    · exact h2.at_ i x hi
    · exact (h.at_ j x hj).keep hM.sub fun b hb hlt => h2.frm.block b hlt (hold j x b hj hns hb).2
  · rcases putB_get hl hx with ⟨i, hji, hi⟩ | ⟨hj, hns⟩
    · rcases putB_get hl hy with ⟨i', hji', hi'⟩ | ⟨hk, hns'⟩
      · rw [hji, hji', h2.sep i i' x y b hi hi' hxb hyb]
      · obtain ⟨h3, h4⟩ := hold k y b hk hns' hyb
        rcases (h2.out i x b hi hxb).1 with h5 | h5
        · exact absurd h5 h4
        · have : w.heap.size ≤ b := h5
          omega
    · rcases putB_get hl hy with ⟨i', hji', hi'⟩ | ⟨hk, hns'⟩
      · obtain ⟨h3, h4⟩ := hold j x b hj hns hxb
        rcases (h2.out i' y b hi' hyb).1 with h5 | h5
        · exact absurd h5 h4
        · have : w.heap.size ≤ b := h5
          omega
      · exact h.sep j k x y b hj hk hxb hyb
  · rcases putB_get hl hx with ⟨i, hji, hi⟩ | ⟨hj, hns⟩
    · obtain ⟨h3, h4⟩ := h2.out i x b hi hxb
      refine ⟨?_, h4⟩
      rcases h3 with h5 | h5
      · obtain ⟨k, y, _, hy, hyb⟩ := hX b h5
        exact (h.out k y b hy hyb).1
      · exact .inr (Nat.le_trans h.frm.size h5)
    · obtain ⟨h3, h4⟩ := h.out j x b hj hxb
      refine ⟨h3, fun p hp' => ?_⟩
      have hlt := hold j x b hj hns hxb
      cases hc : M' p with
      | none => rfl
      | some v =>
        rcases hM.2 p v hc with h5 | h5
        · rw [h4 p hp'] at h5; cases h5
        · rcases h5 with h6 | h6
          · exact absurd (hp' ▸ h6) hlt.2
          · have h7 : w.heap.size ≤ p.block := h6
            omega
def Re (a b : AV) : Prop := ∀ M u, RA M a u → RA M b u
def Res (asq bs : List AV) : Prop := ∀ M us, RAs M asq us → RAs M bs us
theorem re_refl {a : AV} : Re a a := fun _ _ h => h
theorem re_own {i j : Nat} {v : Value} : Re (.own i v) (.own j v) := fun M u h => by simp only [RA] at h ⊢; exact h
theorem re_ptr {i j b off : Nat} : Re (.ptr i b off) (.ptr j b off) := fun M u h => by simp only [RA] at h ⊢; exact h
theorem re_cls {a : AV} {t : T} (hz : Rzs [] [a] [t]) : Re a (.c t) := fun M u h => by
  have h1 : RAs M [a] [u] := by simp only [RAs]; exact ⟨u, [], rfl, h, rfl⟩
  have h2 := cls_sound _ _ _ hz h1
  simp only [RTs] at h2
  obtain ⟨x, r, e, h3, _⟩ := h2
  injection e with e _
  subst e
  simpa only [RA] using h3
theorem res_nil : Res [] [] := fun _ _ h => h
theorem res_cons {a b : AV} {asq bs : List AV} (h : Re a b) (h' : Res asq bs) : Res (a :: asq) (b :: bs) := fun M us hu => by
  simp only [RAs] at hu ⊢
  obtain ⟨x, r, e, h1, h2⟩ := hu
  exact ⟨x, r, e, h M x h1, h' M r h2⟩
section
variable {P : Program} {F : Frm} {d : Option Tmp} {ty : TypeId} {pos : String} {aft : Array Edge} {g : Option (Nat × Bool)} {ρ : Operand → AV} {hp : List Blk} {K : AV → List Blk → Prop}
theorem lo_callG {f : FuncId} {y : Operand} {xs : List Operand} {ats : Array TypeId} {asq cap : List AV} {hs : List Blk} {R : AV → List Blk → Prop} (sel : List Nat) (hc : AG P f asq hs R) (hy : ∀ M u, RA M (ρ y) u → ∃ cs : List Value, u = .func (.func f) #[] cs.toArray ∧ RAs M cap cs) (hx : Res (xs.map ρ ++ cap) asq) (hsl : selB hp sel = some hs) (hf : freshB sel = true)
    (h : ∀ r hs2, R r hs2 → ∃ r', Re r r' ∧ sel.length ≤ hs2.length ∧ K r' (putB hp sel hs2)) : LO P F ⟨d, .call { callee := .value y, args := xs.toArray, argTypes := ats }, ty, pos, aft, g⟩ ρ hp K := by
  refine ⟨fun M e w he hh => ?_⟩
  obtain ⟨hE, hcall⟩ := hc
  have h1 := he y (by simp [Op.operands, Call.operands])
  obtain ⟨cs, hu, hcs⟩ := hy M _ h1
  rw [run_call hE hu]
  have hav := (ev_all xs (fun x hx => he x (by simp [Op.operands, Call.operands, hx]))).app hcs
  refine (hcall (subF M hs w) M w _ (heap_sel hh hsl hf) (hx M _ hav)).mono ?_
  rintro e' w' ⟨v, r, hs2, M', rfl, hR, hM, hh2, hr⟩
  obtain ⟨r', hre, hl, hK⟩ := h r hs2 hR
  exact ⟨v, rfl, M', r', _, hK, hM.to (sub_may hh hsl), heap_put hh hsl hl hh2, hre M' v hr⟩
end
end Go.Proofs.Ythgackidonocpaa
namespace Go.Proofs.Ythgackidonocpaa
open Go.RowKit Go.Lib
def bytT (b : UInt8) : T := .lit (.int .u8 (b.toNat : Int))
def byts (l : List UInt8) : List T := l.map bytT
def bytRow (l : List UInt8) : T := .row l.length 1 (byts l)
theorem byts_app (l r : List UInt8) : byts (l ++ r) = byts l ++ byts r := by simp [byts]
theorem rt_byts {M : Mm} : ∀ l : List UInt8, RTs M (byts l) (bvs l)
  | [] => by simp [byts, bvs, RTs]
  | b :: l => by
    simp only [byts, bvs, List.map_cons, RTs]
    exact ⟨_, _, rfl, by simp only [bytT, RT, bv], rt_byts l⟩
theorem byts_of {M : Mm} : ∀ {l : List UInt8} {xs : List Value}, RTs M (byts l) xs → xs = bvs l
  | [], _, h => by simpa [byts, RTs, bvs] using h
  | b :: l, _, h => by
    simp only [byts, List.map_cons, RTs] at h
    obtain ⟨x, r, rfl, h1, h2⟩ := h
    simp only [bytT, RT] at h1
    rw [h1, byts_of (l := l) h2]
    rfl
theorem rd_of_row {M : Mm} {w : World} (hm : MemOk M w) {l : List UInt8} {u : Value} (h : RT M (bytRow l) u) : ∃ A c, u = .slice A l.length c ∧ Rd w w.heap.size 1 A l.length (bvs l) := by
  simp only [bytRow, RT] at h
  obtain ⟨A, c, xs, h1, h2, h3, h4, h5, h6, h7⟩ := h
  obtain rfl := byts_of h7
  refine ⟨A, c, h1, h5, fun hn => ?_⟩
  obtain ⟨ad, h8, h9⟩ := h6 hn
  have hat : ∀ j u, (bvs l)[j]? = some u → w.cell? (ad.add j) = some u := fun j u hj => (hm _ _ (h9 j u hj)).1
  refine ⟨ad, h8, ?_, hat⟩
  obtain ⟨x, hx⟩ : ∃ x, (bvs l)[0]? = some x := ⟨_, List.getElem?_eq_getElem (by rw [bvs_len]; exact hn)⟩
  have := World.block_lt_of_cell? w _ (hat 0 x hx)
  rwa [add_block] at this
theorem strCells_eq (s : ByteArray) : strCells s = bvs s.data.toList := by
  simp [strCells, bvs, bv]
section
variable {P : Program} {F : Frm} {L : Tab} {d : Option Tmp} {ty : TypeId} {pos : String} {aft : Array Edge} {g : Option (Nat × Bool)} {ρ : Operand → AV} {hp : List Blk} {K : AV → List Blk → Prop}
variable {t t' u e : TypeId} {x y : Operand} {k k' : IntKind} {a b : Int}
theorem lo_str {ti tu te : TI} {l : List UInt8} (hL : TabOk P L) (hx : ρ x = .c (bytRow l)) (hu : L.look u = some tu) (hud : tu.d = .slice e) (he : L.look e = some te) (hed : te.d = .int .u8) (ht : L.look t = some ti) (hd : ti.d = .string) (h : K (.c (.lit (.string ⟨l.toArray⟩))) hp) : LO P F ⟨d, .convert u t x, ty, pos, aft, g⟩ ρ hp K := by
  refine LO.same (fun M ev w hev hh => ?_) h
  have h1 := hev x (by first | (simp [Op.operands]; done) | simp [Op.operands, Call.operands])
  rw [hx] at h1
  simp only [RA] at h1
  obtain ⟨A, c, h2, h3⟩ := rd_of_row hh.mem h1
  have := run_string_rd (P := P) u t e (hL.slice hu hud) (hL.int he hed) (hL.string ht hd) c h3
  exact ⟨.string ⟨l.toArray⟩, by simp [execOp, h2, this], by simp only [RA, RT]⟩
theorem lo_bytes {ti tu te : TI} {s : ByteArray} (hL : TabOk P L) (hx : ρ x = .c (.lit (.string s))) (hs : s.size ≤ maxLen) (hu : L.look u = some tu) (hud : tu.d = .string) (ht : L.look t = some ti) (hd : ti.d = .slice e) (he : L.look e = some te) (hed : te.d = .int .u8) (h : K (.c (bytRow s.data.toList)) hp) : LO P F ⟨d, .convert u t x, ty, pos, aft, g⟩ ρ hp K := by
  refine ⟨fun M ev w hev hh => ?_⟩
  have h1 := hev x (by first | (simp [Op.operands]; done) | simp [Op.operands, Call.operands])
  rw [hx] at h1
  simp only [RA, RT] at h1
  obtain ⟨c, w', h2, h3, h4, h5⟩ := run_bytes_rd (P := P) w u t e s.data.toList (hL.string hu hud) (hL.slice ht hd) (hL.int he hed)
  have hsz : s.data.toList.length = s.size := rfl
  have hrun : (execOp ev ⟨d, .convert u t x, ty, pos, aft, g⟩).run P w = .ok (.value (.slice (some ⟨w.heap.size, 0, none⟩) s.data.toList.length c)) w' := by
    simp [execOp, h1] at h2 ⊢
    simp [h2]
  rw [hrun]
  have hm0 := hh.mem.below h5
  have hM := frz_ext (M := M) w.heap.size w'
  refine ⟨frz M w.heap.size w', _, hp, h, (hM.low hh.frm.size), hh.below h5 hM (frz_ok hm0 _), ?_⟩
  simp only [RA, bytRow, RT]
  refine ⟨some ⟨w.heap.size, 0, none⟩, c, bvs s.data.toList, rfl, h3, by rw [hsz]; exact hs, by omega, by rw [bvs_len]; omega, fun hn => ⟨_, rfl, fun j u hj => ?_⟩, rt_byts _⟩
  obtain ⟨ad, e1, _, e2⟩ := h4.2 hn
  injection e1 with e1
  subst e1
  exact frz_new (mem_fresh hh.mem (by rw [add_block]; exact Nat.le_refl _)) (by rw [add_block]; exact Nat.le_refl _) (e2 j u hj) (bvs_one _ u (List.mem_of_getElem? hj))
theorem lo_shl {n : Int} (hx : ρ x = .c (.lit (.int k a))) (hy : ρ y = .c (.lit (.int k' n))) (h0 : 0 ≤ n) {r : Int} (hr : k.wrap (a * 2 ^ (min n.toNat k.bits)) = r) (h : K (.c (.lit (.int k r))) hp) : LO P F ⟨d, .binOp .shl t x y t', ty, pos, aft, g⟩ ρ hp K :=
  lo_bin hx hy guard_int (fun w => by simp only [binOp, Op.shift, if_neg (Int.not_lt.2 h0), hr, Sem.run_pure]) h
theorem lo_shr {n : Int} (hx : ρ x = .c (.lit (.int k a))) (hy : ρ y = .c (.lit (.int k' n))) (h0 : 0 ≤ n) {r : Int} (hr : a.fdiv (2 ^ (min n.toNat k.bits)) = r) (h : K (.c (.lit (.int k r))) hp) : LO P F ⟨d, .binOp .shr t x y t', ty, pos, aft, g⟩ ρ hp K :=
  lo_bin hx hy guard_int (fun w => by simp only [binOp, Op.shift, if_neg (Int.not_lt.2 h0), hr, Sem.run_pure]) h
theorem lo_or (hx : ρ x = .c (.lit (.int k a))) (hy : ρ y = .c (.lit (.int k b))) {r : Int} (hr : k.wrap (((a % 2 ^ k.bits).toNat ||| (b % 2 ^ k.bits).toNat : Nat) : Int) = r) (h : K (.c (.lit (.int k r))) hp) : LO P F ⟨d, .binOp .or t x y t', ty, pos, aft, g⟩ ρ hp K :=
  lo_bin hx hy guard_int (fun w => by simp [binOp, Op.intBits, hr]) h
theorem lo_xor (hx : ρ x = .c (.lit (.int k a))) (hy : ρ y = .c (.lit (.int k b))) {r : Int} (hr : k.wrap (((a % 2 ^ k.bits).toNat ^^^ (b % 2 ^ k.bits).toNat : Nat) : Int) = r) (h : K (.c (.lit (.int k r))) hp) : LO P F ⟨d, .binOp .xor t x y t', ty, pos, aft, g⟩ ρ hp K :=
  lo_bin hx hy guard_int (fun w => by simp [binOp, Op.intBits, hr]) h
theorem lo_app_str {ti tu te : TI} {i n : Nat} {v : Value} {cs : List T} {s : ByteArray} (hL : TabOk P L) (hx : ρ x = .own i v) (hi : hp[i]? = some (.row v e 1 n cs)) (hy : ρ y = .c (.lit (.string s))) (ht : L.look t = some ti) (hd : ti.d = .slice e) (hu : L.look u = some tu) (hud : tu.d = .string) (hte : L.look e = some te) (hsz : te.size = 1) (hby : te.bytes = 1) (hz : te.zero = [.int .u8 0]) (hag : te.agg = false)
    (h63 : n + s.size ≤ 140737488355328) (h : ∀ v', K (.own i v') (hp.set i (.row v' e 1 (n + s.size) (cs ++ byts s.data.toList)))) : LO P F ⟨d, .call { callee := .builtin .append, args := #[x, y], argTypes := #[t, u] }, ty, pos, aft, g⟩ ρ hp K := by
  refine ⟨fun M ev w hev hh => ?_⟩
  have h1 := hev x (by first | (simp [Op.operands]; done) | simp [Op.operands, Call.operands])
  rw [hx] at h1
  simp only [RA] at h1
  have h2 := hev y (by first | (simp [Op.operands]; done) | simp [Op.operands, Call.operands])
  rw [hy] at h2
  simp only [RA, RT] at h2
  obtain ⟨xs, ho, hxs, hone, hsz0⟩ := hh.at_ i _ hi
  obtain ⟨inf, zv, i1, i2, i3, i4, i5, i6, i7⟩ := hL.info hte
  have hzv : zv = .int .u8 0 := by
    rw [hag] at i7
    rw [hz] at i5
    cases zv <;> simp_all [Value.cells]
  have hml : n + s.size ≤ maxLen := by unfold maxLen; omega
  obtain ⟨v', w', g1, g2, g5, g6⟩ := run_append_own_string (P := P) w 0 t u ty e inf (hL.slice ht hd) (hL.string hu hud) i1 (by rw [i4, hzv]) (by rw [i2, hsz]) (by rw [i3, hby]) v n xs ho s hml h63 (Nat.zero_le _)
  have hrun : (execOp ev ⟨d, .call { callee := .builtin .append, args := #[x, y], argTypes := #[t, u] }, ty, pos, aft, g⟩).run P w = .ok (.value v') w' := by
    simp [execOp, resolve, invoke, builtin, h1.1, h2, g1]
  rw [hrun]
  have hwhere : v'.ownBlock = v.ownBlock ∨ v'.ownBlock = some w.heap.size := by
    rcases ho.2 with ⟨rfl, rfl⟩ | ⟨gb, cap, cur, rfl, _, hgb, hnc, hcm, hcs, htake⟩
    · by_cases h0 : s.size = 0
      · exact .inl (by rw [g6.2 ⟨rfl, h0⟩])
      · have hr := run_append_nil_string (P := P) w t u ty e inf zv (hL.slice ht hd) (hL.string hu hud) i1 i4 s (by omega) (by omega) (by rw [i3, hby]; omega)
        rw [hr] at g1
        injection g1 with e1 _
        exact .inr (by rw [← e1]; rfl)
    · by_cases hroom : n + s.size ≤ cap
      · have hcs' : cur.size = cap := by simpa using hcs
        have hr := run_append_room_string (P := P) w t u ty e inf (hL.slice ht hd) (hL.string hu hud) i1 (by rw [i2, hsz]) gb n cap cur hgb s hroom (by omega)
        rw [hr] at g1
        injection g1 with e1 _
        exact .inl (by rw [← e1]; rfl)
      · have hxl : xs.length = n := by simpa using ho.1
        have hr := run_append_grow_string (P := P) w t u ty e inf zv (hL.slice ht hd) (hL.string hu hud) i1 i4 ⟨gb, 0, none⟩ n cap xs (by rw [i2, hsz]; simpa using hxl) (ho.cells (g := gb) rfl) s (by omega) (by omega) (by rw [i3, hby]; have := nextslicecap_le (need := n + s.size) (old := cap) (by omega); omega)
        rw [hr] at g1
        injection g1 with e1 _
        exact .inr (by rw [← e1]; rfl)
  refine ⟨M, _, _, h v', Ext.refl _ _, ?_, by simp only [RA]; exact ⟨trivial, own_one g2⟩⟩
  refine hh.step i g5.os g5.tape g5.output g5.size (fun k hk hne => g5.block k hk (fun e => hne _ hi e.symm)) (Ext.refl _ _) (fun p v h1 h2 => by rw [h2] at h1; cases h1) (fun j hj => by rw [List.getElem?_set_ne (Ne.symm hj)]) (fun x' hx' => ?_)
  have hlt : i < hp.length := (List.getElem?_eq_some_iff.1 hi).1
  rw [List.getElem?_set_self hlt] at hx'
  obtain rfl : Blk.row v' e 1 (n + s.size) (cs ++ byts s.data.toList) = x' := by injection hx'
  rw [strCells_eq] at g2
  refine ⟨⟨_, g2, hxs.app (rt_byts _), hone.app (bvs_one _), by omega⟩, fun b hb => ?_⟩
  rcases hwhere with g6 | g6
  · exact .inl ⟨_, hi, by simpa [Blk.blk, g6] using hb⟩
  · obtain rfl : w.heap.size = b := by simpa [Blk.blk, g6] using hb
    exact .inr ⟨Nat.le_refl _, fun p hp => mem_fresh hh.mem (by omega)⟩
end
end Go.Proofs.Ythgackidonocpaa
namespace Go.Proofs.Ythgackidonocpaa
open Go.RowKit
section
variable {L : Tab} {σ : AS}
theorem outsA_nil : OutsA L σ [] [] := by simp only [OutsA]
theorem outsA_cons {r : ResultVar} {rs : List ResultVar} {v : AV} {vs : List AV} (h : OutA L σ r v) (h' : OutsA L σ rs vs) : OutsA L σ (r :: rs) (v :: vs) := by simp only [OutsA]; exact ⟨v, vs, rfl, h, h'⟩
theorem outA_tmp {i : Nat} {v : AV} (h : fc (σ.tmps i) = some v) : OutA L σ (.tmp i) v := by simp only [OutA]; exact fc_eq h
theorem outA_agg {a ty i b off : Nat} {tb : TypeId} {cs l : List AV} {ti : TI} (h1 : σ.tmps a = .ptr i b off) (h2 : σ.hp[i]? = some (.box b tb cs)) (h3 : L.look ty = some ti) (h4 : ti.agg = true) (h5 : Nat.ble (off + ti.size) cs.length = true) (h6 : evl ((cs.drop off).take ti.size) = some l) : OutA L σ (.cell a ty) (.agg l) := by
  simp only [OutA]
  refine ⟨i, b, off, tb, cs, ti, h1, h2, h3, ?_⟩
  rw [h4]
  exact ⟨Nat.le_of_ble_eq_true h5, by rw [evl_eq h6]⟩
theorem outA_one {a ty i b off : Nat} {tb : TypeId} {cs : List AV} {v : AV} {ti : TI} (h1 : σ.tmps a = .ptr i b off) (h2 : σ.hp[i]? = some (.box b tb cs)) (h3 : L.look ty = some ti) (h4 : ti.agg = false) (h5 : cs[off]? = some v) : OutA L σ (.cell a ty) v := by
  simp only [OutA]
  refine ⟨i, b, off, tb, cs, ti, h1, h2, h3, ?_⟩
  rw [h4]
  exact h5
theorem zG {res : List ResultVar} {k : Nat} {R : AV → List Blk → Prop} {e : Exit} {vs : List AV} {hq : List Blk} (h : R (outA vs) hq) (he : e = .normal ∨ e = .ret := by first | exact .inl rfl | exact .inr rfl)
    (ho : OutsA L σ res vs := by repeat (first | exact outsA_nil | apply outsA_cons | (apply outA_tmp; (focus exact rfl)) | (apply outA_agg; (focus exact rfl); (focus exact rfl); (focus exact rfl); (focus exact rfl); (focus exact rfl); (focus exact rfl)) | (apply outA_one; (focus exact rfl); (focus exact rfl); (focus exact rfl); (focus exact rfl); (focus exact rfl))))
    (hh : evl (σ.hp.take k) = some hq := by exact rfl) : FinG L res k R e σ := ⟨he, vs, ho, by rw [← evl_eq hh]; exact h⟩
end
section
variable {P : Program} {F : Frm} {L : Tab} {d : Option Tmp} {ty : TypeId} {pos : String} {aft : Array Edge} {g : Option (Nat × Bool)} {ρ : Operand → AV} {hp : List Blk} {K : AV → List Blk → Prop}
theorem zCallG {f : FuncId} {y : Operand} {xs : List Operand} {ats : Array TypeId} {asq cap : List AV} {hs : List Blk} {R : AV → List Blk → Prop} (sel : List Nat) (hc : AG P f asq hs R)
    (h : ∀ r hs2, R r hs2 → ∃ r' hp', Re r r' ∧ Nat.ble sel.length hs2.length = true ∧ evl (putB hp sel hs2) = some hp' ∧ K r' hp') (hy : ρ y = .fn (.func f) cap := by exact rfl)
    (hx : Res (xs.map ρ ++ cap) asq := by repeat (first | exact res_nil | apply res_cons | exact re_own | exact re_ptr | exact re_refl | apply re_cls | exact rzs_nil | apply rzs_cons | exact rz_c | exact rz_nil rfl | apply rz_agg | apply rz_fn | apply rz_tup)) (hsl : selB hp sel = some hs := by exact rfl) (hf : freshB sel = true := by exact rfl) :
    LO P F ⟨d, .call { callee := .value y, args := xs.toArray, argTypes := ats }, ty, pos, aft, g⟩ ρ hp K :=
  lo_callG sel hc (fun M u hu => by rw [hy] at hu; simpa only [RA] using hu) hx hsl hf fun r hs2 hR => by
    obtain ⟨r', hp', h1, h2, h3, h4⟩ := h r hs2 hR
    exact ⟨r', h1, Nat.le_of_ble_eq_true h2, by rw [← evl_eq h3]; exact h4⟩
/-- a function value that came in -/
theorem zCallGc {f : FuncId} {y : Operand} {xs : List Operand} {ats : Array TypeId} {asq : List AV} {cap : List T} {hs : List Blk} {R : AV → List Blk → Prop} (sel : List Nat) (hc : AG P f asq hs R)
    (h : ∀ r hs2, R r hs2 → ∃ r' hp', Re r r' ∧ Nat.ble sel.length hs2.length = true ∧ evl (putB hp sel hs2) = some hp' ∧ K r' hp') (hy : ρ y = .c (.fn (.func f) cap) := by exact rfl)
    (hx : Res (xs.map ρ ++ cap.map .c) asq := by repeat (first | exact res_nil | apply res_cons | exact re_own | exact re_ptr | exact re_refl | apply re_cls | exact rzs_nil | apply rzs_cons | exact rz_c | exact rz_nil rfl | apply rz_agg | apply rz_fn | apply rz_tup)) (hsl : selB hp sel = some hs := by exact rfl) (hf : freshB sel = true := by exact rfl) :
    LO P F ⟨d, .call { callee := .value y, args := xs.toArray, argTypes := ats }, ty, pos, aft, g⟩ ρ hp K :=
  lo_callG sel hc (fun M u hu => by
    rw [hy] at hu
    simp only [RA, RT] at hu
    obtain ⟨cs, h1, h2⟩ := hu
    exact ⟨cs, h1, RAs.ofT h2⟩) hx hsl hf fun r hs2 hR => by
    obtain ⟨r', hp', h1, h2, h3, h4⟩ := h r hs2 hR
    exact ⟨r', h1, Nat.le_of_ble_eq_true h2, by rw [← evl_eq h3]; exact h4⟩
variable {t u e : TypeId} {x y : Operand} {ti tu te : TI} {cs : List T} {n i : Nat} {v : Value} {e' : TypeId}
theorem zStr (l : List UInt8) (hc : cs = byts l) (hn : n = l.length) (h : K (.c (.lit (.string ⟨l.toArray⟩))) hp) (hL : TabOk P L := by exact tok) (hx : ρ x = .c (.row n 1 cs) := by exact rfl) (hu : L.look u = some tu := by exact rfl) (hud : tu.d = .slice e := by exact rfl) (he : L.look e = some te := by exact rfl) (hed : te.d = .int .u8 := by exact rfl) (ht : L.look t = some ti := by exact rfl) (hd : ti.d = .string := by exact rfl) :
    LO P F ⟨d, .convert u t x, ty, pos, aft, g⟩ ρ hp K := lo_str hL (by rw [hx, hc, hn]; rfl) hu hud he hed ht hd h
theorem zByt {s : ByteArray} (hs : s.size ≤ maxLen) (h : K (.c (bytRow s.data.toList)) hp) (hL : TabOk P L := by exact tok) (hx : ρ x = .c (.lit (.string s)) := by exact rfl) (hu : L.look u = some tu := by exact rfl) (hud : tu.d = .string := by exact rfl) (ht : L.look t = some ti := by exact rfl) (hd : ti.d = .slice e := by exact rfl) (he : L.look e = some te := by exact rfl) (hed : te.d = .int .u8 := by exact rfl) :
    LO P F ⟨d, .convert u t x, ty, pos, aft, g⟩ ρ hp K := lo_bytes hL hx hs hu hud ht hd he hed h
theorem zAps {s : ByteArray} {hp' : Value → List Blk} (h63 : n + s.size ≤ 140737488355328) (h : ∀ v', K (.own i v') (hp' v')) (hL : TabOk P L := by exact tok) (hx : ρ x = .own i v := by exact rfl) (hi : hp[i]? = some (.row v e 1 n cs) := by exact rfl) (hy : ρ y = .c (.lit (.string s)) := by exact rfl) (ht : L.look t = some ti := by exact rfl) (hd : ti.d = .slice e := by exact rfl) (hu : L.look u = some tu := by exact rfl) (hud : tu.d = .string := by exact rfl) (hte : L.look e = some te := by exact rfl) (hsz : te.size = 1 := by exact rfl) (hby : te.bytes = 1 := by exact rfl) (hz : te.zero = [.int .u8 0] := by exact rfl) (hag : te.agg = false := by exact rfl)
    (hf : ∀ v', evl (hp.set i (.row v' e 1 (n + s.size) (cs ++ byts s.data.toList))) = some (hp' v') := by exact fun _ => rfl) : LO P F ⟨d, .call { callee := .builtin .append, args := #[x, y], argTypes := #[t, u] }, ty, pos, aft, g⟩ ρ hp K :=
  lo_app_str hL hx hi hy ht hd hu hud hte hsz hby hz hag h63 fun v' => by rw [← evl_eq (hf v')]; exact h v'
end
end Go.Proofs.Ythgackidonocpaa
namespace Go.Proofs.Ythgackidonocpaa
open Go.RowKit
def bs (l : List UInt8) : ByteArray := ⟨l.toArray⟩
theorem bs_app (a b : List UInt8) : bs a ++ bs b = bs (a ++ b) := by
  apply ByteArray.ext
  simp [bs]
theorem bs_size' (l : List UInt8) : (bs l).size = l.length := by simp [bs, ByteArray.size]
theorem sz_len (s : ByteArray) : s.data.toList.length = s.size := by cases s; simp [ByteArray.size]
section
variable {P : Program} {F : Frm} {L : Tab} {d : Option Tmp} {ty : TypeId} {pos : String} {aft : Array Edge} {g : Option (Nat × Bool)} {ρ : Operand → AV} {hp : List Blk} {K : AV → List Blk → Prop}
theorem zBo {t el : TypeId} {ti te : TI} {n k : Nat} {parts : List (Nat × Operand)} {cs cs' : List AV} {ts : List T} {hp' : Value → List Blk} (h : ∀ v, K (.own k v) (hp' v)) (hL : TabOk P L := by exact tok) (ht : L.look t = some ti := by exact rfl) (hd : ti.d = .slice el := by exact rfl) (hte : L.look el = some te := by exact rfl) (h0 : Nat.ble 1 te.size = true := by exact rfl) (hn : Nat.ble (n * te.size) 16777216 = true := by exact rfl)
    (hf : fillA (fun i => some (i * te.size, te.size)) ((List.range (n * te.size)).map fun j => .c (.lit (te.zero.getD (j % te.size) undef))) (parts.map fun p => (p.1, ρ p.2)) = some cs := by exact rfl) (he : evl cs = some cs' := by exact rfl) (hz : Rzs [] cs' ts := by repeat (first | exact rzs_nil | apply rzs_cons | exact rz_c | exact rz_nil rfl | apply rz_agg | exact rz_own rfl | apply rz_fn | exact rz_ptr rfl | apply rz_tup)) (hk : lenU hp = some k := by exact rfl) (hq : ∀ v, evl (hp ++ [.row v el te.size n ts]) = some (hp' v) := by exact fun _ => rfl) :
    LO P F ⟨d, .buildSlice t n parts.toArray, ty, pos, aft, g⟩ ρ hp K := v_bslice_own hL ht hd hte h0 hn hf he hz hk hq h
theorem zCatb {t t' : TypeId} {x y : Operand} (a b : List UInt8) (hb : a.length + b.length ≤ 9223372036854775807) (h : K (.c (.lit (.string (bs (a ++ b))))) hp) (hx : ρ x = .c (.lit (.string (bs a))) := by exact rfl) (hy : ρ y = .c (.lit (.string (bs b))) := by exact rfl) : LO P F ⟨d, .binOp .add t x y t', ty, pos, aft, g⟩ ρ hp K :=
  lo_cat hx hy (by rw [bs_size', bs_size']; exact hb) (by rw [bs_app]; exact h)
end
/-- a function that grows a row of the caller's own, given nil -/
theorem ag_nil {P : Program} {f : FuncId} {asq : List AV} {e : TypeId} {sz : Nat} {R : AV → List Blk → Prop} (h0 : 0 < sz) (h : AG P f (.own 0 (.slice none 0 0) :: asq) [.row (.slice none 0 0) e sz 0 []] R) : AG P f (.c (.lit (.slice none 0 0)) :: asq) [] R := by
  refine ⟨h.1, fun F M w vs hh hv => ?_⟩
  refine h.2 F M w vs (push_row hh rfl rfl rfl (Nat.le_refl _) (fun _ _ => rfl) (Ext.refl _ _) (fun p v h1 h2 => by rw [h2] at h1; cases h1) ⟨[], World.ownsRow_nil _ _ _ _, by simp only [RTs], fun x hx => by simp at hx, h0⟩ (fun b hb => by simp [Blk.blk, Value.ownBlock] at hb)) ?_
  simp only [RAs] at hv ⊢
  obtain ⟨x, r, e1, h1, h2⟩ := hv
  simp only [RA, RT] at h1
  exact ⟨x, r, e1, by simp only [RA]; exact ⟨h1, rfl⟩, h2⟩
end Go.Proofs.Ythgackidonocpaa
namespace Go.Proofs.Ythgackidonocpaa
set_option maxRecDepth 100000 in
def tab : Tab :=
  (.node 203 ⟨1, 8, [.nilFunc], .other⟩ (.node 102 ⟨8, 136, [.int .i64 0, .int .i64 0, .string ⟨#[]⟩, .slice none 0 0, .slice none 0 0, .slice none 0 0, .slice none 0 0, .int .i64 0], (.struct [(0, 1), (1, 1), (2, 1), (3, 1), (4, 1), (5, 1), (6, 1), (7, 1)])⟩ (.node 52 ⟨1, 8, [.nilFunc], .other⟩ (.node 24 ⟨4, 56, [.int .i64 0, .int .i64 0, .string ⟨#[]⟩, .slice none 0 0], (.struct [(0, 1), (1, 1), (2, 1), (3, 1)])⟩ (.node 12 ⟨1, 8, [.int .u64 0], (.int .u64)⟩ (.node 6 ⟨1, 1, [.int .u8 0], (.int .u8)⟩ (.node 3 ⟨1, 8, [.int .i64 0], (.int .i64)⟩ (.node 2 ⟨1, 8, [.int .i64 0], (.int .i64)⟩ (.node 1 ⟨1, 8, [.nilFunc], .other⟩ .nil .nil) .nil) (.node 5 ⟨1, 1, [.int .u8 0], (.int .u8)⟩ (.node 4 ⟨1, 1, [.bool false], .bool⟩ .nil .nil) .nil)) (.node 9 ⟨1, 16, [.string ⟨#[]⟩], .string⟩ (.node 8 ⟨4, 24, [.int .i64 0, .int .i64 0, .bool false, .int .u8 0], (.struct [(0, 1), (1, 1), (2, 1), (3, 1)])⟩ (.node 7 ⟨4, 24, [.int .i64 0, .int .i64 0, .bool false, .int .u8 0], (.struct [(0, 1), (1, 1), (2, 1), (3, 1)])⟩ .nil .nil) .nil) (.node 11 ⟨1, 16, [.string ⟨#[]⟩], .string⟩ (.node 10 ⟨1, 16, [.string ⟨#[]⟩], .string⟩ .nil .nil) .nil))) (.node 18 ⟨1, 8, [.pointer none], (.struct [(0, 1)])⟩ (.node 15 ⟨1, 8, [.pointer none], .other⟩ (.node 14 ⟨2, 24, [.string ⟨#[]⟩, .int .u64 0], (.struct [(0, 1), (1, 1)])⟩ (.node 13 ⟨2, 24, [.string ⟨#[]⟩, .int .u64 0], (.struct [(0, 1), (1, 1)])⟩ .nil .nil) .nil) (.node 17 ⟨1, 8, [.pointer none], .other⟩ (.node 16 ⟨1, 8, [.pointer none], .other⟩ .nil .nil) .nil)) (.node 21 ⟨1, 4, [.int .i32 0], (.int .i32)⟩ (.node 20 ⟨1, 16, [.nilIface], .other⟩ (.node 19 ⟨1, 8, [.pointer none], (.struct [(0, 1)])⟩ .nil .nil) .nil) (.node 23 ⟨4, 56, [.int .i64 0, .int .i64 0, .string ⟨#[]⟩, .slice none 0 0], (.struct [(0, 1), (1, 1), (2, 1), (3, 1)])⟩ (.node 22 ⟨1, 24, [.slice none 0 0], (.slice 24)⟩ .nil .nil) .nil)))) (.node 38 ⟨9, 104, [.int .i64 0, .int .i64 0, .int .i64 0, .int .i64 0, .string ⟨#[]⟩, .int .i64 0, .int .i64 0, .string ⟨#[]⟩, .slice none 0 0], (.struct [(0, 1), (1, 1), (2, 1), (3, 1), (4, 1), (5, 4)])⟩ (.node 31 ⟨1, 8, [.nilFunc], .other⟩ (.node 27 ⟨1, 24, [.slice none 0 0], (.slice 5)⟩ (.node 26 ⟨1, 8, [.nilFunc], .other⟩ (.node 25 ⟨1, 8, [.nilFunc], .other⟩ .nil .nil) .nil) (.node 30 ⟨1, 8, [.nilFunc], .other⟩ (.node 28 ⟨1, 8, [.int .i64 0], (.int .i64)⟩ .nil .nil) .nil)) (.node 35 ⟨1, 8, [.nilFunc], .other⟩ (.node 34 ⟨1, 8, [.nilFunc], .other⟩ (.node 32 ⟨1, 8, [.nilFunc], .other⟩ .nil .nil) .nil) (.node 37 ⟨9, 104, [.int .i64 0, .int .i64 0, .int .i64 0, .int .i64 0, .string ⟨#[]⟩, .int .i64 0, .int .i64 0, .string ⟨#[]⟩, .slice none 0 0], (.struct [(0, 1), (1, 1), (2, 1), (3, 1), (4, 1), (5, 4)])⟩ (.node 36 ⟨1, 8, [.nilFunc], .other⟩ .nil .nil) .nil))) (.node 45 ⟨1, 24, [.slice none 0 0], (.slice 163)⟩ (.node 42 ⟨1, 8, [.nilFunc], .other⟩ (.node 41 ⟨1, 8, [.nilFunc], .other⟩ (.node 40 ⟨1, 8, [.nilFunc], .other⟩ .nil .nil) .nil) (.node 44 ⟨1, 8, [.nilFunc], .other⟩ (.node 43 ⟨1, 8, [.nilFunc], .other⟩ .nil .nil) .nil)) (.node 49 ⟨1, 8, [.nilFunc], .other⟩ (.node 47 ⟨3, 64, [.string ⟨#[]⟩, .slice none 0 0, .slice none 0 0], (.struct [(0, 1), (1, 1), (2, 1)])⟩ (.node 46 ⟨3, 64, [.string ⟨#[]⟩, .slice none 0 0, .slice none 0 0], (.struct [(0, 1), (1, 1), (2, 1)])⟩ .nil .nil) .nil) (.node 51 ⟨1, 8, [.nilFunc], .other⟩ (.node 50 ⟨1, 8, [.nilFunc], .other⟩ .nil .nil) .nil))))) (.node 78 ⟨1, 8, [.nilFunc], .other⟩ (.node 65 ⟨1, 8, [.nilFunc], .other⟩ (.node 58 ⟨8, 152, [.int .i64 0, .string ⟨#[]⟩, .slice none 0 0, .slice none 0 0, .slice none 0 0, .int .i64 0, .slice none 0 0, .slice none 0 0], (.struct [(0, 1), (1, 3), (4, 1), (5, 1), (6, 1), (7, 1)])⟩ (.node 55 ⟨1, 24, [.slice none 0 0], (.slice 38)⟩ (.node 54 ⟨1, 8, [.nilFunc], .other⟩ (.node 53 ⟨1, 8, [.nilFunc], .other⟩ .nil .nil) .nil) (.node 57 ⟨8, 152, [.int .i64 0, .string ⟨#[]⟩, .slice none 0 0, .slice none 0 0, .slice none 0 0, .int .i64 0, .slice none 0 0, .slice none 0 0], (.struct [(0, 1), (1, 3), (4, 1), (5, 1), (6, 1), (7, 1)])⟩ (.node 56 ⟨1, 24, [.slice none 0 0], (.slice 3)⟩ .nil .nil) .nil)) (.node 62 ⟨1, 8, [.nilFunc], .other⟩ (.node 61 ⟨1, 8, [.nilFunc], .other⟩ (.node 60 ⟨1, 8, [.nilFunc], .other⟩ .nil .nil) .nil) (.node 64 ⟨1, 8, [.nilFunc], .other⟩ (.node 63 ⟨1, 8, [.nilFunc], .other⟩ .nil .nil) .nil))) (.node 71 ⟨1, 8, [.nilFunc], .other⟩ (.node 68 ⟨3, 56, [.int .i64 0, .slice none 0 0, .slice none 0 0], (.struct [(0, 1), (1, 1), (2, 1)])⟩ (.node 67 ⟨1, 24, [.slice none 0 0], (.slice 183)⟩ (.node 66 ⟨1, 24, [.slice none 0 0], (.slice 58)⟩ .nil .nil) .nil) (.node 70 ⟨1, 8, [.nilFunc], .other⟩ (.node 69 ⟨3, 56, [.int .i64 0, .slice none 0 0, .slice none 0 0], (.struct [(0, 1), (1, 1), (2, 1)])⟩ .nil .nil) .nil)) (.node 74 ⟨1, 24, [.slice none 0 0], (.slice 83)⟩ (.node 73 ⟨1, 24, [.slice none 0 0], (.slice 80)⟩ (.node 72 ⟨1, 8, [.nilFunc], .other⟩ .nil .nil) .nil) (.node 76 ⟨5, 88, [.bool false, .slice none 0 0, .slice none 0 0, .slice none 0 0, .int .i64 0], (.struct [(0, 1), (1, 1), (2, 1), (3, 1), (4, 1)])⟩ (.node 75 ⟨5, 88, [.bool false, .slice none 0 0, .slice none 0 0, .slice none 0 0, .int .i64 0], (.struct [(0, 1), (1, 1), (2, 1), (3, 1), (4, 1)])⟩ .nil .nil) .nil)))) (.node 90 ⟨1, 24, [.slice none 0 0], (.slice 220)⟩ (.node 84 ⟨1, 8, [.nilFunc], .other⟩ (.node 81 ⟨1, 8, [.nilFunc], .other⟩ (.node 80 ⟨4, 32, [.int .i64 0, .int .i64 0, .int .i64 0, .int .i64 0], (.struct [(0, 1), (1, 1), (2, 1), (3, 1)])⟩ (.node 79 ⟨4, 32, [.int .i64 0, .int .i64 0, .int .i64 0, .int .i64 0], (.struct [(0, 1), (1, 1), (2, 1), (3, 1)])⟩ .nil .nil) .nil) (.node 83 ⟨1, 24, [.slice none 0 0], (.slice 56)⟩ (.node 82 ⟨1, 8, [.nilFunc], .other⟩ .nil .nil) .nil)) (.node 87 ⟨1, 24, [.slice none 0 0], (.slice 411)⟩ (.node 86 ⟨1, 8, [.nilFunc], .other⟩ (.node 85 ⟨1, 8, [.nilFunc], .other⟩ .nil .nil) .nil) (.node 89 ⟨1, 24, [.slice none 0 0], (.slice 218)⟩ (.node 88 ⟨1, 24, [.slice none 0 0], (.slice 213)⟩ .nil .nil) .nil))) (.node 96 ⟨3, 48, [.int .i64 0, .string ⟨#[]⟩, .slice none 0 0], (.struct [(0, 1), (1, 1), (2, 1)])⟩ (.node 93 ⟨8, 168, [.string ⟨#[]⟩, .int .i64 0, .slice none 0 0, .slice none 0 0, .slice none 0 0, .slice none 0 0, .slice none 0 0, .slice none 0 0], (.struct [(0, 1), (1, 1), (2, 1), (3, 1), (4, 1), (5, 1), (6, 1), (7, 1)])⟩ (.node 92 ⟨1, 24, [.slice none 0 0], (.slice 104)⟩ (.node 91 ⟨1, 24, [.slice none 0 0], (.slice 299)⟩ .nil .nil) .nil) (.node 95 ⟨1, 24, [.slice none 0 0], (.slice 97)⟩ (.node 94 ⟨8, 168, [.string ⟨#[]⟩, .int .i64 0, .slice none 0 0, .slice none 0 0, .slice none 0 0, .slice none 0 0, .slice none 0 0, .slice none 0 0], (.struct [(0, 1), (1, 1), (2, 1), (3, 1), (4, 1), (5, 1), (6, 1), (7, 1)])⟩ .nil .nil) .nil)) (.node 99 ⟨1, 24, [.slice none 0 0], (.slice 102)⟩ (.node 98 ⟨1, 24, [.slice none 0 0], (.slice 9)⟩ (.node 97 ⟨3, 48, [.int .i64 0, .string ⟨#[]⟩, .slice none 0 0], (.struct [(0, 1), (1, 1), (2, 1)])⟩ .nil .nil) .nil) (.node 101 ⟨8, 136, [.int .i64 0, .int .i64 0, .string ⟨#[]⟩, .slice none 0 0, .slice none 0 0, .slice none 0 0, .slice none 0 0, .int .i64 0], (.struct [(0, 1), (1, 1), (2, 1), (3, 1), (4, 1), (5, 1), (6, 1), (7, 1)])⟩ (.node 100 ⟨1, 24, [.slice none 0 0], (.slice 304)⟩ .nil .nil) .nil)))))) (.node 155 ⟨1, 8, [.nilFunc], .other⟩ (.node 130 ⟨1, 8, [.nilFunc], .other⟩ (.node 116 ⟨3, 32, [.int .i64 0, .int .i64 0, .string ⟨#[]⟩], (.struct [(0, 1), (1, 1), (2, 1)])⟩ (.node 109 ⟨1, 8, [.nilFunc], .other⟩ (.node 105 ⟨1, 24, [.slice none 0 0], (.slice 207)⟩ (.node 104 ⟨14, 248, [.string ⟨#[]⟩, .slice none 0 0, .slice none 0 0, .int .i64 0, .string ⟨#[]⟩, .slice none 0 0, .int .i64 0, .int .i64 0, .string ⟨#[]⟩, .slice none 0 0, .slice none 0 0, .slice none 0 0, .slice none 0 0, .int .i64 0], (.struct [(0, 1), (1, 1), (2, 1), (3, 3), (6, 8)])⟩ (.node 103 ⟨14, 248, [.string ⟨#[]⟩, .slice none 0 0, .slice none 0 0, .int .i64 0, .string ⟨#[]⟩, .slice none 0 0, .int .i64 0, .int .i64 0, .string ⟨#[]⟩, .slice none 0 0, .slice none 0 0, .slice none 0 0, .slice none 0 0, .int .i64 0], (.struct [(0, 1), (1, 1), (2, 1), (3, 3), (6, 8)])⟩ .nil .nil) .nil) (.node 107 ⟨1, 24, [.slice none 0 0], (.struct [(0, 1)])⟩ (.node 106 ⟨1, 24, [.slice none 0 0], (.struct [(0, 1)])⟩ .nil .nil) .nil)) (.node 112 ⟨1, 8, [.nilFunc], .other⟩ (.node 111 ⟨1, 8, [.nilFunc], .other⟩ (.node 110 ⟨1, 8, [.nilFunc], .other⟩ .nil .nil) .nil) (.node 115 ⟨1, 8, [.nilFunc], .other⟩ (.node 113 ⟨1, 24, [.slice none 0 0], (.slice 117)⟩ .nil .nil) .nil))) (.node 123 ⟨1, 24, [.slice none 0 0], (.slice 199)⟩ (.node 119 ⟨1, 8, [.nilFunc], .other⟩ (.node 118 ⟨1, 8, [.nilFunc], .other⟩ (.node 117 ⟨3, 32, [.int .i64 0, .int .i64 0, .string ⟨#[]⟩], (.struct [(0, 1), (1, 1), (2, 1)])⟩ .nil .nil) .nil) (.node 122 ⟨1, 8, [.nilFunc], .other⟩ (.node 120 ⟨1, 24, [.slice none 0 0], (.slice 129)⟩ .nil .nil) .nil)) (.node 127 ⟨1, 8, [.nilFunc], .other⟩ (.node 126 ⟨1, 8, [.nilFunc], .other⟩ (.node 125 ⟨1, 8, [.nilFunc], .other⟩ .nil .nil) .nil) (.node 129 ⟨2, 16, [.int .i64 0, .int .i64 0], (.struct [(0, 1), (1, 1)])⟩ (.node 128 ⟨2, 16, [.int .i64 0, .int .i64 0], (.struct [(0, 1), (1, 1)])⟩ .nil .nil) .nil)))) (.node 143 ⟨1, 8, [.nilFunc], .other⟩ (.node 137 ⟨1, 8, [.nilFunc], .other⟩ (.node 134 ⟨1, 8, [.nilFunc], .other⟩ (.node 133 ⟨1, 8, [.nilFunc], .other⟩ (.node 131 ⟨1, 8, [.nilFunc], .other⟩ .nil .nil) .nil) (.node 136 ⟨1, 8, [.nilFunc], .other⟩ (.node 135 ⟨1, 8, [.nilFunc], .other⟩ .nil .nil) .nil)) (.node 140 ⟨5, 64, [.int .i64 0, .int .i64 0, .string ⟨#[]⟩, .slice none 0 0, .int .i64 0], (.struct [(0, 4), (4, 1)])⟩ (.node 139 ⟨1, 8, [.pointer none], .other⟩ (.node 138 ⟨1, 8, [.nilFunc], .other⟩ .nil .nil) .nil) (.node 142 ⟨1, 24, [.slice none 0 0], (.slice 141)⟩ (.node 141 ⟨5, 64, [.int .i64 0, .int .i64 0, .string ⟨#[]⟩, .slice none 0 0, .int .i64 0], (.struct [(0, 4), (4, 1)])⟩ .nil .nil) .nil))) (.node 149 ⟨2, 32, [.slice none 0 0, .bool false], (.struct [(0, 1), (1, 1)])⟩ (.node 146 ⟨1, 8, [.nilFunc], .other⟩ (.node 145 ⟨1, 8, [.nilFunc], .other⟩ (.node 144 ⟨1, 8, [.nilFunc], .other⟩ .nil .nil) .nil) (.node 148 ⟨1, 8, [.pointer none], .other⟩ (.node 147 ⟨1, 8, [.pointer none], .other⟩ .nil .nil) .nil)) (.node 152 ⟨1, 8, [.nilFunc], .other⟩ (.node 151 ⟨1, 8, [.nilFunc], .other⟩ (.node 150 ⟨2, 32, [.slice none 0 0, .bool false], (.struct [(0, 1), (1, 1)])⟩ .nil .nil) .nil) (.node 154 ⟨1, 8, [.nilFunc], .other⟩ (.node 153 ⟨1, 8, [.nilFunc], .other⟩ .nil .nil) .nil))))) (.node 179 ⟨1, 8, [.nilFunc], .other⟩ (.node 167 ⟨1, 8, [.nilFunc], .other⟩ (.node 161 ⟨1, 8, [.nilFunc], .other⟩ (.node 158 ⟨1, 8, [.nilFunc], .other⟩ (.node 157 ⟨1, 8, [.nilFunc], .other⟩ (.node 156 ⟨1, 8, [.nilFunc], .other⟩ .nil .nil) .nil) (.node 160 ⟨1, 8, [.nilFunc], .other⟩ (.node 159 ⟨1, 8, [.nilFunc], .other⟩ .nil .nil) .nil)) (.node 164 ⟨1, 8, [.nilFunc], .other⟩ (.node 163 ⟨5, 64, [.int .i64 0, .int .i64 0, .int .i64 0, .string ⟨#[]⟩, .slice none 0 0], (.struct [(0, 1), (1, 4)])⟩ (.node 162 ⟨5, 64, [.int .i64 0, .int .i64 0, .int .i64 0, .string ⟨#[]⟩, .slice none 0 0], (.struct [(0, 1), (1, 4)])⟩ .nil .nil) .nil) (.node 166 ⟨1, 8, [.nilFunc], .other⟩ (.node 165 ⟨1, 8, [.nilFunc], .other⟩ .nil .nil) .nil))) (.node 173 ⟨1, 8, [.nilFunc], .other⟩ (.node 170 ⟨1, 8, [.nilFunc], .other⟩ (.node 169 ⟨1, 8, [.nilFunc], .other⟩ (.node 168 ⟨1, 8, [.nilFunc], .other⟩ .nil .nil) .nil) (.node 172 ⟨1, 8, [.nilFunc], .other⟩ (.node 171 ⟨1, 8, [.nilFunc], .other⟩ .nil .nil) .nil)) (.node 176 ⟨1, 8, [.nilFunc], .other⟩ (.node 175 ⟨1, 8, [.nilFunc], .other⟩ (.node 174 ⟨1, 8, [.nilFunc], .other⟩ .nil .nil) .nil) (.node 178 ⟨1, 8, [.nilFunc], .other⟩ (.node 177 ⟨1, 8, [.int .u64 0], (.int .u64)⟩ .nil .nil) .nil)))) (.node 191 ⟨1, 8, [.pointer none], .other⟩ (.node 185 ⟨1, 8, [.nilFunc], .other⟩ (.node 182 ⟨3, 40, [.int .i64 0, .int .i64 0, .slice none 0 0], (.struct [(0, 1), (1, 1), (2, 1)])⟩ (.node 181 ⟨1, 8, [.nilFunc], .other⟩ (.node 180 ⟨1, 8, [.nilFunc], .other⟩ .nil .nil) .nil) (.node 184 ⟨1, 8, [.nilFunc], .other⟩ (.node 183 ⟨3, 40, [.int .i64 0, .int .i64 0, .slice none 0 0], (.struct [(0, 1), (1, 1), (2, 1)])⟩ .nil .nil) .nil)) (.node 188 ⟨1, 8, [.nilFunc], .other⟩ (.node 187 ⟨1, 24, [.slice none 0 0], (.slice 27)⟩ (.node 186 ⟨1, 8, [.nilFunc], .other⟩ .nil .nil) .nil) (.node 190 ⟨1, 8, [.nilFunc], .other⟩ (.node 189 ⟨1, 8, [.nilFunc], .other⟩ .nil .nil) .nil))) (.node 197 ⟨5, 56, [.slice none 0 0, .int .i64 0, .int .i64 0, .bool false, .int .i64 0], (.struct [(0, 1), (1, 1), (2, 1), (3, 1), (4, 1)])⟩ (.node 194 ⟨1, 8, [.nilFunc], .other⟩ (.node 193 ⟨1, 8, [.nilFunc], .other⟩ (.node 192 ⟨1, 8, [.nilFunc], .other⟩ .nil .nil) .nil) (.node 196 ⟨1, 8, [.pointer none], .other⟩ (.node 195 ⟨1, 8, [.map none], .other⟩ .nil .nil) .nil)) (.node 200 ⟨1, 24, [.slice none 0 0], (.slice 4)⟩ (.node 199 ⟨2, 16, [.int .i64 0, .int .i64 0], (.array 2 3)⟩ (.node 198 ⟨5, 56, [.slice none 0 0, .int .i64 0, .int .i64 0, .bool false, .int .i64 0], (.struct [(0, 1), (1, 1), (2, 1), (3, 1), (4, 1)])⟩ .nil .nil) .nil) (.node 201 ⟨1, 8, [.nilFunc], .other⟩ .nil .nil))))))) (.node 303 ⟨12, 192, [.int .i64 0, .int .i64 0, .string ⟨#[]⟩, .slice none 0 0, .int .i64 0, .int .i64 0, .string ⟨#[]⟩, .slice none 0 0, .slice none 0 0, .slice none 0 0, .slice none 0 0, .int .i64 0], (.struct [(0, 4), (4, 8)])⟩ (.node 254 ⟨1, 8, [.nilFunc], .other⟩ (.node 228 ⟨1, 8, [.nilFunc], .other⟩ (.node 216 ⟨1, 8, [.nilFunc], .other⟩ (.node 210 ⟨1, 8, [.nilFunc], .other⟩ (.node 206 ⟨4, 72, [.string ⟨#[]⟩, .int .i64 0, .slice none 0 0, .slice none 0 0], (.struct [(0, 1), (1, 1), (2, 1), (3, 1)])⟩ (.node 205 ⟨1, 24, [.slice none 0 0], (.slice 225)⟩ (.node 204 ⟨1, 8, [.nilFunc], .other⟩ .nil .nil) .nil) (.node 209 ⟨1, 8, [.nilFunc], .other⟩ (.node 207 ⟨4, 72, [.string ⟨#[]⟩, .int .i64 0, .slice none 0 0, .slice none 0 0], (.struct [(0, 1), (1, 1), (2, 1), (3, 1)])⟩ .nil .nil) .nil)) (.node 213 ⟨3, 64, [.string ⟨#[]⟩, .slice none 0 0, .slice none 0 0], (.struct [(0, 1), (1, 1), (2, 1)])⟩ (.node 212 ⟨3, 64, [.string ⟨#[]⟩, .slice none 0 0, .slice none 0 0], (.struct [(0, 1), (1, 1), (2, 1)])⟩ (.node 211 ⟨1, 24, [.slice none 0 0], (.slice 215)⟩ .nil .nil) .nil) (.node 215 ⟨2, 40, [.string ⟨#[]⟩, .slice none 0 0], (.struct [(0, 1), (1, 1)])⟩ (.node 214 ⟨2, 40, [.string ⟨#[]⟩, .slice none 0 0], (.struct [(0, 1), (1, 1)])⟩ .nil .nil) .nil))) (.node 222 ⟨1, 8, [.nilFunc], .other⟩ (.node 219 ⟨3, 56, [.string ⟨#[]⟩, .string ⟨#[]⟩, .slice none 0 0], (.struct [(0, 1), (1, 1), (2, 1)])⟩ (.node 218 ⟨2, 40, [.string ⟨#[]⟩, .slice none 0 0], (.struct [(0, 1), (1, 1)])⟩ (.node 217 ⟨2, 40, [.string ⟨#[]⟩, .slice none 0 0], (.struct [(0, 1), (1, 1)])⟩ .nil .nil) .nil) (.node 221 ⟨1, 8, [.nilFunc], .other⟩ (.node 220 ⟨3, 56, [.string ⟨#[]⟩, .string ⟨#[]⟩, .slice none 0 0], (.struct [(0, 1), (1, 1), (2, 1)])⟩ .nil .nil) .nil)) (.node 225 ⟨5, 64, [.int .i64 0, .int .i64 0, .int .i64 0, .string ⟨#[]⟩, .slice none 0 0], (.struct [(0, 1), (1, 4)])⟩ (.node 224 ⟨5, 64, [.int .i64 0, .int .i64 0, .int .i64 0, .string ⟨#[]⟩, .slice none 0 0], (.struct [(0, 1), (1, 4)])⟩ (.node 223 ⟨1, 8, [.map none], .other⟩ .nil .nil) .nil) (.node 227 ⟨1, 8, [.nilFunc], .other⟩ (.node 226 ⟨1, 8, [.nilFunc], .other⟩ .nil .nil) .nil)))) (.node 240 ⟨1, 16, [.nilIface], .other⟩ (.node 234 ⟨2, 32, [.pointer none, .slice none 0 0], (.struct [(0, 1), (1, 1)])⟩ (.node 231 ⟨1, 8, [.map none], .other⟩ (.node 230 ⟨1, 8, [.nilFunc], .other⟩ (.node 229 ⟨1, 8, [.nilFunc], .other⟩ .nil .nil) .nil) (.node 233 ⟨1, 8, [.pointer none], .other⟩ (.node 232 ⟨1, 8, [.nilFunc], .other⟩ .nil .nil) .nil)) (.node 237 ⟨5, 32, [.int .i64 0, .int .i64 0, .bool false, .bool false, .int .i64 0], (.struct [(0, 1), (1, 1), (2, 1), (3, 1), (4, 1)])⟩ (.node 236 ⟨5, 32, [.int .i64 0, .int .i64 0, .bool false, .bool false, .int .i64 0], (.struct [(0, 1), (1, 1), (2, 1), (3, 1), (4, 1)])⟩ (.node 235 ⟨2, 32, [.pointer none, .slice none 0 0], (.struct [(0, 1), (1, 1)])⟩ .nil .nil) .nil) (.node 239 ⟨1, 16, [.nilIface], .other⟩ (.node 238 ⟨1, 24, [.slice none 0 0], (.slice 237)⟩ .nil .nil) .nil))) (.node 248 ⟨1, 8, [.nilFunc], .other⟩ (.node 244 ⟨1, 8, [.nilFunc], .other⟩ (.node 243 ⟨1, 8, [.nilFunc], .other⟩ (.node 242 ⟨1, 8, [.nilFunc], .other⟩ .nil .nil) .nil) (.node 246 ⟨1, 24, [.slice none 0 0], (.slice 318)⟩ (.node 245 ⟨1, 8, [.nilFunc], .other⟩ .nil .nil) .nil)) (.node 251 ⟨1, 8, [.nilFunc], .other⟩ (.node 250 ⟨1, 8, [.nilFunc], .other⟩ (.node 249 ⟨1, 8, [.nilFunc], .other⟩ .nil .nil) .nil) (.node 253 ⟨1, 8, [.nilFunc], .other⟩ (.node 252 ⟨1, 8, [.nilFunc], .other⟩ .nil .nil) .nil))))) (.node 278 ⟨1, 8, [.nilFunc], .other⟩ (.node 266 ⟨3, 40, [.slice none 0 0, .bool false, .int .i64 0], (.struct [(0, 2), (2, 1)])⟩ (.node 260 ⟨1, 8, [.nilFunc], .other⟩ (.node 257 ⟨1, 8, [.nilFunc], .other⟩ (.node 256 ⟨1, 8, [.nilFunc], .other⟩ (.node 255 ⟨1, 8, [.nilFunc], .other⟩ .nil .nil) .nil) (.node 259 ⟨1, 8, [.nilFunc], .other⟩ (.node 258 ⟨1, 8, [.nilFunc], .other⟩ .nil .nil) .nil)) (.node 263 ⟨2, 32, [.slice none 0 0, .bool false], (.struct [(0, 1), (1, 1)])⟩ (.node 262 ⟨1, 8, [.nilFunc], .other⟩ (.node 261 ⟨1, 8, [.nilFunc], .other⟩ .nil .nil) .nil) (.node 265 ⟨3, 40, [.slice none 0 0, .bool false, .int .i64 0], (.struct [(0, 2), (2, 1)])⟩ (.node 264 ⟨2, 32, [.slice none 0 0, .bool false], (.struct [(0, 1), (1, 1)])⟩ .nil .nil) .nil))) (.node 272 ⟨1, 8, [.nilFunc], .other⟩ (.node 269 ⟨1, 8, [.nilFunc], .other⟩ (.node 268 ⟨1, 8, [.pointer none], .other⟩ (.node 267 ⟨1, 8, [.nilFunc], .other⟩ .nil .nil) .nil) (.node 271 ⟨1, 8, [.nilFunc], .other⟩ (.node 270 ⟨1, 8, [.nilFunc], .other⟩ .nil .nil) .nil)) (.node 275 ⟨1, 8, [.nilFunc], .other⟩ (.node 274 ⟨1, 8, [.nilFunc], .other⟩ (.node 273 ⟨1, 8, [.nilFunc], .other⟩ .nil .nil) .nil) (.node 277 ⟨1, 8, [.nilFunc], .other⟩ (.node 276 ⟨1, 8, [.nilFunc], .other⟩ .nil .nil) .nil)))) (.node 292 ⟨1, 8, [.pointer none], .other⟩ (.node 284 ⟨1, 8, [.pointer none], .other⟩ (.node 281 ⟨1, 24, [.slice none 0 0], (.slice 284)⟩ (.node 280 ⟨1, 8, [.map none], .other⟩ (.node 279 ⟨1, 8, [.nilFunc], .other⟩ .nil .nil) .nil) (.node 283 ⟨3, 56, [.slice none 0 0, .slice none 0 0, .map none], (.struct [(0, 1), (1, 1), (2, 1)])⟩ (.node 282 ⟨3, 56, [.slice none 0 0, .slice none 0 0, .map none], (.struct [(0, 1), (1, 1), (2, 1)])⟩ .nil .nil) .nil)) (.node 288 ⟨1, 8, [.nilFunc], .other⟩ (.node 287 ⟨1, 8, [.nilFunc], .other⟩ (.node 286 ⟨1, 8, [.nilFunc], .other⟩ .nil .nil) .nil) (.node 291 ⟨1, 8, [.nilFunc], .other⟩ (.node 290 ⟨1, 8, [.nilFunc], .other⟩ .nil .nil) .nil))) (.node 298 ⟨15, 272, [.string ⟨#[]⟩, .slice none 0 0, .slice none 0 0, .slice none 0 0, .int .i64 0, .string ⟨#[]⟩, .slice none 0 0, .int .i64 0, .int .i64 0, .string ⟨#[]⟩, .slice none 0 0, .slice none 0 0, .slice none 0 0, .slice none 0 0, .int .i64 0], (.struct [(0, 1), (1, 1), (2, 1), (3, 1), (4, 3), (7, 8)])⟩ (.node 295 ⟨17, 344, [.string ⟨#[]⟩, .int .i64 0, .slice none 0 0, .slice none 0 0, .slice none 0 0, .slice none 0 0, .slice none 0 0, .slice none 0 0, .string ⟨#[]⟩, .int .i64 0, .slice none 0 0, .slice none 0 0, .slice none 0 0, .slice none 0 0, .slice none 0 0, .slice none 0 0, .map none], (.struct [(0, 8), (8, 8), (16, 1)])⟩ (.node 294 ⟨17, 344, [.string ⟨#[]⟩, .int .i64 0, .slice none 0 0, .slice none 0 0, .slice none 0 0, .slice none 0 0, .slice none 0 0, .slice none 0 0, .string ⟨#[]⟩, .int .i64 0, .slice none 0 0, .slice none 0 0, .slice none 0 0, .slice none 0 0, .slice none 0 0, .slice none 0 0, .map none], (.struct [(0, 8), (8, 8), (16, 1)])⟩ (.node 293 ⟨1, 8, [.map none], .other⟩ .nil .nil) .nil) (.node 297 ⟨1, 8, [.nilFunc], .other⟩ (.node 296 ⟨1, 8, [.nilFunc], .other⟩ .nil .nil) .nil)) (.node 301 ⟨4, 56, [.int .i64 0, .int .i64 0, .string ⟨#[]⟩, .slice none 0 0], (.struct [(0, 1), (1, 1), (2, 1), (3, 1)])⟩ (.node 300 ⟨1, 24, [.slice none 0 0], (.slice 302)⟩ (.node 299 ⟨15, 272, [.string ⟨#[]⟩, .slice none 0 0, .slice none 0 0, .slice none 0 0, .int .i64 0, .string ⟨#[]⟩, .slice none 0 0, .int .i64 0, .int .i64 0, .string ⟨#[]⟩, .slice none 0 0, .slice none 0 0, .slice none 0 0, .slice none 0 0, .int .i64 0], (.struct [(0, 1), (1, 1), (2, 1), (3, 1), (4, 3), (7, 8)])⟩ .nil .nil) .nil) (.node 302 ⟨4, 56, [.int .i64 0, .int .i64 0, .string ⟨#[]⟩, .slice none 0 0], (.struct [(0, 1), (1, 1), (2, 1), (3, 1)])⟩ .nil .nil)))))) (.node 360 ⟨1, 8, [.nilFunc], .other⟩ (.node 330 ⟨5, 88, [.slice none 0 0, .bool false, .int .i64 0, .slice none 0 0, .slice none 0 0], (.struct [(0, 1), (1, 1), (2, 1), (3, 1), (4, 1)])⟩ (.node 317 ⟨1, 8, [.nilFunc], .other⟩ (.node 310 ⟨3, 24, [.int .i64 0, .int .i64 0, .int .i64 0], (.struct [(0, 1), (1, 1), (2, 1)])⟩ (.node 306 ⟨1, 8, [.nilFunc], .other⟩ (.node 305 ⟨1, 8, [.nilFunc], .other⟩ (.node 304 ⟨12, 192, [.int .i64 0, .int .i64 0, .string ⟨#[]⟩, .slice none 0 0, .int .i64 0, .int .i64 0, .string ⟨#[]⟩, .slice none 0 0, .slice none 0 0, .slice none 0 0, .slice none 0 0, .int .i64 0], (.struct [(0, 4), (4, 8)])⟩ .nil .nil) .nil) (.node 309 ⟨1, 24, [.slice none 0 0], (.slice 311)⟩ (.node 308 ⟨1, 8, [.nilFunc], .other⟩ .nil .nil) .nil)) (.node 313 ⟨1, 8, [.int .u64 0], (.int .u64)⟩ (.node 312 ⟨1, 8, [.nilFunc], .other⟩ (.node 311 ⟨3, 24, [.int .i64 0, .int .i64 0, .int .i64 0], (.struct [(0, 1), (1, 1), (2, 1)])⟩ .nil .nil) .nil) (.node 316 ⟨1, 8, [.pointer none], .other⟩ (.node 315 ⟨1, 8, [.nilFunc], .other⟩ .nil .nil) .nil))) (.node 324 ⟨1, 8, [.nilFunc], .other⟩ (.node 320 ⟨5, 64, [.int .i64 0, .int .i64 0, .string ⟨#[]⟩, .slice none 0 0, .int .i64 0], (.struct [(0, 3), (3, 1), (4, 1)])⟩ (.node 319 ⟨5, 64, [.int .i64 0, .int .i64 0, .string ⟨#[]⟩, .slice none 0 0, .int .i64 0], (.struct [(0, 3), (3, 1), (4, 1)])⟩ (.node 318 ⟨1, 8, [.pointer none], .other⟩ .nil .nil) .nil) (.node 323 ⟨1, 8, [.nilFunc], .other⟩ (.node 322 ⟨1, 8, [.nilFunc], .other⟩ .nil .nil) .nil)) (.node 327 ⟨1, 8, [.nilFunc], .other⟩ (.node 326 ⟨1, 8, [.nilFunc], .other⟩ (.node 325 ⟨1, 8, [.nilFunc], .other⟩ .nil .nil) .nil) (.node 329 ⟨5, 88, [.slice none 0 0, .bool false, .int .i64 0, .slice none 0 0, .slice none 0 0], (.struct [(0, 1), (1, 1), (2, 1), (3, 1), (4, 1)])⟩ (.node 328 ⟨1, 8, [.nilFunc], .other⟩ .nil .nil) .nil)))) (.node 344 ⟨3, 56, [.slice none 0 0, .slice none 0 0, .pointer none], (.struct [(0, 1), (1, 1), (2, 1)])⟩ (.node 337 ⟨1, 8, [.nilFunc], .other⟩ (.node 334 ⟨1, 8, [.nilFunc], .other⟩ (.node 333 ⟨1, 8, [.nilFunc], .other⟩ (.node 331 ⟨1, 8, [.nilFunc], .other⟩ .nil .nil) .nil) (.node 336 ⟨1, 8, [.nilFunc], .other⟩ (.node 335 ⟨1, 8, [.nilFunc], .other⟩ .nil .nil) .nil)) (.node 340 ⟨1, 8, [.nilFunc], .other⟩ (.node 339 ⟨1, 8, [.nilFunc], .other⟩ (.node 338 ⟨1, 8, [.nilFunc], .other⟩ .nil .nil) .nil) (.node 343 ⟨1, 8, [.nilFunc], .other⟩ (.node 341 ⟨1, 8, [.pointer none], .other⟩ .nil .nil) .nil))) (.node 353 ⟨1, 8, [.nilFunc], .other⟩ (.node 348 ⟨1, 4, [.int .u32 0], (.int .u32)⟩ (.node 347 ⟨1, 8, [.nilFunc], .other⟩ (.node 345 ⟨3, 56, [.slice none 0 0, .slice none 0 0, .pointer none], (.struct [(0, 1), (1, 1), (2, 1)])⟩ .nil .nil) .nil) (.node 352 ⟨1, 8, [.nilFunc], .other⟩ (.node 350 ⟨1, 8, [.nilFunc], .other⟩ .nil .nil) .nil)) (.node 357 ⟨1, 8, [.nilFunc], .other⟩ (.node 356 ⟨1, 8, [.nilFunc], .other⟩ (.node 354 ⟨1, 8, [.int .i64 0], (.int .i64)⟩ .nil .nil) .nil) (.node 359 ⟨1, 8, [.nilFunc], .other⟩ (.node 358 ⟨1, 8, [.nilFunc], .other⟩ .nil .nil) .nil))))) (.node 388 ⟨1, 8, [.nilFunc], .other⟩ (.node 373 ⟨1, 8, [.nilFunc], .other⟩ (.node 366 ⟨1, 8, [.nilFunc], .other⟩ (.node 363 ⟨1, 8, [.nilFunc], .other⟩ (.node 362 ⟨1, 8, [.nilFunc], .other⟩ (.node 361 ⟨1, 8, [.nilFunc], .other⟩ .nil .nil) .nil) (.node 365 ⟨1, 8, [.nilFunc], .other⟩ (.node 364 ⟨1, 8, [.nilFunc], .other⟩ .nil .nil) .nil)) (.node 370 ⟨1, 8, [.nilFunc], .other⟩ (.node 369 ⟨1, 8, [.nilFunc], .other⟩ (.node 367 ⟨1, 8, [.nilFunc], .other⟩ .nil .nil) .nil) (.node 372 ⟨1, 8, [.nilFunc], .other⟩ (.node 371 ⟨1, 8, [.nilFunc], .other⟩ .nil .nil) .nil))) (.node 382 ⟨1, 8, [.nilFunc], .other⟩ (.node 377 ⟨1, 8, [.nilFunc], .other⟩ (.node 376 ⟨1, 8, [.nilFunc], .other⟩ (.node 374 ⟨1, 8, [.pointer none], .other⟩ .nil .nil) .nil) (.node 381 ⟨1, 8, [.nilFunc], .other⟩ (.node 379 ⟨1, 8, [.nilFunc], .other⟩ .nil .nil) .nil)) (.node 385 ⟨1, 8, [.nilFunc], .other⟩ (.node 384 ⟨1, 8, [.nilFunc], .other⟩ (.node 383 ⟨1, 8, [.nilFunc], .other⟩ .nil .nil) .nil) (.node 387 ⟨1, 8, [.nilFunc], .other⟩ (.node 386 ⟨1, 8, [.int .u64 0], (.int .u64)⟩ .nil .nil) .nil)))) (.node 401 ⟨0, 0, [], (.struct [(0, 0)])⟩ (.node 394 ⟨1, 8, [.nilFunc], .other⟩ (.node 391 ⟨3, 56, [.slice none 0 0, .slice none 0 0, .pointer none], (.struct [(0, 1), (1, 1), (2, 1)])⟩ (.node 390 ⟨1, 8, [.nilFunc], .other⟩ (.node 389 ⟨1, 8, [.nilFunc], .other⟩ .nil .nil) .nil) (.node 393 ⟨1, 8, [.nilFunc], .other⟩ (.node 392 ⟨3, 56, [.slice none 0 0, .slice none 0 0, .pointer none], (.struct [(0, 1), (1, 1), (2, 1)])⟩ .nil .nil) .nil)) (.node 398 ⟨4, 40, [.pointer none, .pointer none, .pointer none, .string ⟨#[]⟩], (.struct [(0, 1), (1, 1), (2, 1), (3, 1)])⟩ (.node 397 ⟨1, 8, [.nilFunc], .other⟩ (.node 395 ⟨1, 8, [.pointer none], .other⟩ .nil .nil) .nil) (.node 400 ⟨0, 0, [], (.array 0 16)⟩ (.node 399 ⟨4, 40, [.pointer none, .pointer none, .pointer none, .string ⟨#[]⟩], (.struct [(0, 1), (1, 1), (2, 1), (3, 1)])⟩ .nil .nil) .nil))) (.node 407 ⟨1, 4, [.int .i32 0], (.int .i32)⟩ (.node 404 ⟨1, 1, [.int .u8 0], (.int .u8)⟩ (.node 403 ⟨1, 1, [.int .u8 0], (.int .u8)⟩ (.node 402 ⟨0, 0, [], (.struct [(0, 0)])⟩ .nil .nil) .nil) (.node 406 ⟨1, 4, [.int .i32 0], (.int .i32)⟩ (.node 405 ⟨1, 8, [.nilFunc], .other⟩ .nil .nil) .nil)) (.node 410 ⟨3, 32, [.string ⟨#[]⟩, .int .i64 0, .int .i64 0], (.struct [(0, 1), (1, 1), (2, 1)])⟩ (.node 409 ⟨11, 48, [.int .u64 0, .int .u64 0, .int .u32 0, .int .u8 0, .int .u8 0, .int .u8 0, .int .u8 0, .nilFunc, .pointer none, .int .i32 0, .int .i32 0], (.struct [(0, 1), (1, 1), (2, 1), (3, 1), (4, 1), (5, 1), (6, 1), (7, 1), (8, 1), (9, 1), (10, 1)])⟩ (.node 408 ⟨11, 48, [.int .u64 0, .int .u64 0, .int .u32 0, .int .u8 0, .int .u8 0, .int .u8 0, .int .u8 0, .nilFunc, .pointer none, .int .i32 0, .int .i32 0], (.struct [(0, 1), (1, 1), (2, 1), (3, 1), (4, 1), (5, 1), (6, 1), (7, 1), (8, 1), (9, 1), (10, 1)])⟩ .nil .nil) .nil) (.node 411 ⟨3, 32, [.string ⟨#[]⟩, .int .i64 0, .int .i64 0], (.struct [(0, 1), (1, 1), (2, 1)])⟩ .nil .nil))))))))
set_option maxRecDepth 100000 in
theorem tabOkB : tab.okB Try.prog = true := by kernel_rfl
theorem tok : TabOk Try.prog tab := tab_ok tabOkB
end Go.Proofs.Ythgackidonocpaa
namespace Go.Proofs.Ythgackidonocpaa
open Go.RowKit
/-- a number in groups of seven bits -/
def uv (n : Nat) : List UInt8 := if h : n < 128 then [UInt8.ofNat n] else UInt8.ofNat (n % 128 + 128) :: uv (n / 128)
theorem uv_small {n : Nat} (h : n < 128) : uv n = [UInt8.ofNat n] := by rw [uv, dif_pos h]
theorem uv_big {n : Nat} (h : ¬ n < 128) : uv n = UInt8.ofNat (n % 128 + 128) :: uv (n / 128) := by rw [uv, dif_neg h]
theorem uv_len : ∀ (k n : Nat), n < 128 ^ k → (uv n).length ≤ max k 1
  | 0, n, h => by
    have : n = 0 := by simpa using h
    subst this
    rw [uv_small (by omega)]
    simp
  | k + 1, n, h => by
    by_cases hn : n < 128
    · rw [uv_small hn]; simp
    · rw [uv_big hn]
      have h1 : n / 128 < 128 ^ k := by
        rw [Nat.div_lt_iff_lt_mul (by omega)]
        rwa [Nat.pow_succ] at h
      have h2 := uv_len k (n / 128) h1
      have h3 : 0 < k := by
        rcases Nat.eq_zero_or_pos k with rfl | hk
        · simp at h1; omega
        · exact hk
      simp only [List.length_cons]
      omega
theorem uv_len64 {n : Nat} (h : n < 2 ^ 64) : (uv n).length ≤ 10 := by
  have := uv_len 10 n (by have : (2 : Nat) ^ 64 ≤ 128 ^ 10 := by decide
                          omega)
  simpa using this
theorem u8_of {n : Nat} (h : n < 256) : T.lit (.int .u8 ((n : Nat) : Int)) = bytT (UInt8.ofNat n) := by
  unfold bytT
  rw [UInt8.toNat_ofNat', Nat.mod_eq_of_lt (by simpa using h)]
theorem or128 : ∀ x : Nat, x < 256 → x ||| 128 = x % 128 + 128 := by decide +kernel
theorem wrap_u8 (u : Nat) : IntKind.u8.wrap (u : Int) = ((u % 256 : Nat) : Int) := by
  simp [IntKind.wrap, IntKind.bits, IntKind.signed]
theorem or_u8 (u : Nat) : IntKind.u8.wrap ((((u % 256 : Nat) : Int) % 2 ^ IntKind.u8.bits).toNat ||| ((128 : Int) % 2 ^ IntKind.u8.bits).toNat : Nat) = ((u % 128 + 128 : Nat) : Int) := by
  have h1 : ((((u % 256 : Nat) : Int) % 2 ^ IntKind.u8.bits).toNat ||| ((128 : Int) % 2 ^ IntKind.u8.bits).toNat : Nat) = u % 128 + 128 := by
    have h2 : (((u % 256 : Nat) : Int) % 2 ^ IntKind.u8.bits).toNat = u % 256 := by simp [IntKind.bits]; omega
    have h3 : ((128 : Int) % 2 ^ IntKind.u8.bits).toNat = 128 := rfl
    rw [h2, h3, or128 _ (by omega)]
    omega
  rw [h1, wrap_u8]
  congr 1
  omega
theorem shr7 (u : Nat) : (u : Int).fdiv (2 ^ (min (7 : Int).toNat IntKind.u64.bits)) = ((u / 128 : Nat) : Int) := by
  have : (2 : Int) ^ (min (7 : Int).toNat IntKind.u64.bits) = 128 := rfl
  rw [this, Int.fdiv_eq_ediv_of_nonneg _ (by omega)]
  omega
/-- what an own row of bytes is once more bytes were appended -/
def Grew (e : TypeId) (l : List UInt8) (r : AV) (hs : List Blk) : Prop := ∃ v', r = .own 0 v' ∧ hs = [.row v' e 1 l.length (byts l)]
set_option maxRecDepth 100000 in
set_option maxHeartbeats 2000000 in
theorem unsigned_ag (v : Value) (l : List UInt8) (n : Nat) (hn : n < 2 ^ 64) (hl : l.length ≤ 1099511627776) :
    AG Try.prog 206 [.own 0 v, .c (.lit (.int .u64 (n : Int)))] [.row v 5 1 l.length (byts l)] (Grew 5 (l ++ uv n)) := by
  have hul := uv_len64 hn
  refine ag_enter 1 tok Try.func206 Try.ntmps206 Try.results206 rfl (by kernel_rfl) rfl fun F => ?_
  repeat (first | refine gG ?_ | refine zAp (fun _ => ?_))
  refine x_loop [0, 1, 5, 6, 7, 8, 9, 10, 11, 12, 13, 14] (fun y : Nat × List UInt8 × Value => [(1, .c (.lit (.int .u64 (y.1 : Int)))), (0, .own 0 y.2.2)]) (fun y => [.row y.2.2 5 1 y.2.1.length (byts y.2.1)])
    (fun y => y.1 < 2 ^ 64 ∧ y.2.1 ++ uv y.1 = l ++ uv n) (fun y => y.1) (n, l, v) ⟨hn, rfl⟩ ⟨rfl, rfl, trivial⟩ rfl ?_
  rintro ⟨u, l', v'⟩ ⟨hu, hinv⟩
  dsimp only at hu hinv ⊢
  have hlen : l'.length + (uv u).length ≤ 1099511627786 := by
    have := congrArg List.length hinv
    simp only [List.length_append] at this
    omega
  repeat (first | refine gG ?_ | refine zAp (fun _ => ?_))
  refine x_cond rfl (fun h => ?_) (fun h => ?_)
  · have hu' : ¬ u < 128 := by have : (128 : Int) ≤ (u : Int) := of_decide_eq_true h
                               omega
    rw [uv_big hu'] at hinv hlen
    simp only [List.length_cons] at hlen
    repeat (first | refine gG ?_ | refine zAp (fun _ => ?_))
    refine lo_conv tok rfl rfl rfl rfl (wrap_u8 u) ?_
    repeat (first | refine gG ?_ | refine zAp (fun _ => ?_))
    refine lo_or rfl rfl (or_u8 u) ?_
    repeat (first | refine gG ?_ | refine zAp (fun _ => ?_))
    refine lo_shr rfl rfl (by omega) (shr7 u) ?_
    repeat (first | refine gG ?_ | refine zAp (fun _ => ?_))
    exact ⟨(u / 128, l' ++ [UInt8.ofNat (u % 128 + 128)], _), ⟨by simp only; omega, by simpa using hinv⟩, by simp only; omega, x_wkd 1 ⟨rfl, rfl, trivial⟩ (by simp only [byts, List.map_append, List.map_cons, List.map_nil, ← u8_of (show u % 128 + 128 < 256 by omega), List.length_append, List.length_cons, List.length_nil]; rfl) (by repeat (first | exact ag_refl | refine ag_upd rfl ?_ | refine ag_at rfl rfl ?_))⟩
  · have hu' : u < 128 := by have : ¬ (128 : Int) ≤ (u : Int) := of_decide_eq_false h
                             omega
    rw [uv_small hu'] at hinv hlen
    simp only [List.length_cons, List.length_nil] at hlen
    repeat (first | refine gG ?_ | refine zAp (fun _ => ?_))
    refine lo_conv tok rfl rfl rfl rfl (wrap_u8 u) ?_
    repeat (first | refine gG ?_ | refine zAp (fun _ => ?_))
    refine zG ?_
    refine ⟨_, rfl, ?_⟩
    rw [← hinv]
    have hb : T.lit (.int .u8 ((u % 256 : Nat) : Int)) = bytT (UInt8.ofNat u) := by rw [Nat.mod_eq_of_lt (by omega)]; exact u8_of (by omega)
    simp only [byts, List.map_append, List.map_cons, List.map_nil, ← hb, List.length_append, List.length_cons, List.length_nil]
end Go.Proofs.Ythgackidonocpaa
namespace Go.Proofs.Ythgackidonocpaa
open Go.RowKit
inductive V where
  | mk (kind num : Int) (text : ByteArray) (args : List V)
mutual
def V.ts : V → List T
  | .mk k n t l => [.lit (.int .i64 k), .lit (.int .i64 n), .lit (.string t), .row l.length 4 (V.all l)]
def V.all : List V → List T
  | [] => []
  | v :: r => v.ts ++ V.all r
end
theorem V.all_eq : ∀ l : List V, V.all l = l.flatMap V.ts
  | [] => rfl
  | v :: l => by rw [V.all, V.all_eq l]; rfl
theorem V.ts_len : ∀ v : V, v.ts.length = 4
  | .mk _ _ _ _ => rfl
def V.row (l : List V) : T := .row l.length 4 (V.all l)
def V.t (v : V) : T := .agg v.ts
mutual
def V.same : V → V → Bool
  | .mk k n t l, .mk k' n' t' l' => decide (k = k') && decide (n = n') && decide (t = t') && V.sames l l'
def V.sames : List V → List V → Bool
  | [], [] => true
  | v :: l, v' :: l' => v.same v' && V.sames l l'
  | _, _ => false
end
theorem V.at {l : List V} {k : Nat} {v : V} (h : l[k]? = some v) : ((V.all l).drop (k * 4)).take 4 = v.ts := by rw [V.all_eq]; exact flat_at V.ts 4 V.ts_len h
/-- all pairs up to the first that is not alike -/
def eqBy {α β : Type} (p : α → β → Bool) : List α → List β → Bool
  | [], [] => true
  | a :: l, b :: r => p a b && eqBy p l r
  | _, _ => false
mutual
def V.size : V → Nat
  | .mk _ _ _ l => V.sizes l + 1
def V.sizes : List V → Nat
  | [] => 0
  | v :: r => v.size + V.sizes r
end
theorem V.size_mem {v : V} : ∀ {l : List V}, v ∈ l → v.size ≤ V.sizes l
  | [], h => by simp at h
  | x :: l, h => by
    simp only [V.sizes]
    rcases List.mem_cons.1 h with rfl | h
    · omega
    · have := V.size_mem h; omega
theorem V.len_sizes : ∀ l : List V, l.length ≤ V.sizes l
  | [] => by simp [V.sizes]
  | .mk _ _ _ _ :: l => by have := V.len_sizes l; simp only [V.sizes, V.size, List.length_cons]; omega
theorem V.ind {P : V → Prop} (h : ∀ k n t l, (∀ v ∈ l, P v) → P (.mk k n t l)) : ∀ v, P v := by
  have : ∀ (N : Nat) (v : V), v.size ≤ N → P v := by
    intro N
    induction N with
    | zero => intro v hv; cases v; simp [V.size] at hv
    | succ N ih =>
      intro v hv
      cases v with
      | mk k n t l =>
        refine h k n t l fun x hx => ih x ?_
        have := V.size_mem hx
        simp only [V.size] at hv
        omega
  exact fun v => this v.size v (Nat.le_refl _)
end Go.Proofs.Ythgackidonocpaa
namespace Go.Proofs.Ythgackidonocpaa
open Go.RowKit
theorem V.all_app (l r : List V) : V.all (l ++ r) = V.all l ++ V.all r := by simp [V.all_eq]
theorem V.all_one (v : V) : V.all [v] = v.ts := by simp [V.all]
theorem V.all_snoc {l : List V} {k : Nat} {a : V} (h : l[k]? = some a) : V.all (l.take (k + 1)) = V.all (l.take k) ++ a.ts := by
  obtain ⟨h1, rfl⟩ := List.getElem?_eq_some_iff.1 h
  rw [List.take_succ_eq_append_getElem h1, V.all_app, V.all_one]
end Go.Proofs.Ythgackidonocpaa
namespace Go.Proofs.Ythgackidonocpaa
open Go.RowKit
/-- it is a bool -/
def Tell (t : T) : Prop := ∃ b : Bool, t = .lit (.bool b)
theorem nth {α : Type} {l : List α} {k : Nat} (h : k < l.length) : ∃ a, l[k]? = some a := ⟨_, List.getElem?_eq_getElem h⟩
def V.args : V → List V
  | .mk _ _ _ l => l
theorem V.sizes_app (l r : List V) : V.sizes (l ++ r) = V.sizes l + V.sizes r := by
  induction l with
  | nil => simp [V.sizes]
  | cons v l ih => simp only [List.cons_append, V.sizes, ih]; omega
theorem V.sizes_flat : ∀ l : List V, V.sizes (l.flatMap V.args) + l.length = V.sizes l
  | [] => rfl
  | .mk _ _ _ a :: l => by
    have := V.sizes_flat l
    simp only [List.flatMap_cons, V.args, V.sizes_app, V.sizes, V.size, List.length_cons]
    omega
theorem V.take_sizes (l : List V) (k : Nat) : V.sizes (l.take k) ≤ V.sizes l := by
  have := V.sizes_app (l.take k) (l.drop k)
  rw [List.take_append_drop] at this
  omega
theorem flat_snoc' {α β : Type} (f : α → List β) {l : List α} {k : Nat} {a : α} (h : l[k]? = some a) : (l.take (k + 1)).flatMap f = (l.take k).flatMap f ++ f a := by
  obtain ⟨h1, rfl⟩ := List.getElem?_eq_some_iff.1 h
  rw [List.take_succ_eq_append_getElem h1, List.flatMap_append]
  simp
set_option maxRecDepth 100000 in
set_option maxHeartbeats 2000000 in
theorem valueSmall_af (v : V) (hv : v.size ≤ 1048576) : AF Try.prog 14 [v.t] Tell := by
  obtain ⟨k0, n0, t0, l0⟩ := v
  refine af_enter tok Try.func14 Try.ntmps14 Try.results14 rfl (by kernel_rfl) rfl rfl fun F hX => ?_
  repeat (first | refine gG ?_ | refine zN1 (fun hlen => ?_) | refine zN2 (fun hlen => ?_) | refine zAl (fun _ => ?_) | refine zBx (fun _ => ?_) | refine zAp (fun _ => ?_))
  rename_i b0
  refine x_loop [2, 3, 4, 5, 6, 8, 11, 12, 13, 14, 15, 16, 17, 18, 19, 20, 21, 22, 23, 24, 25, 26, 27, 28, 29, 30, 31, 32, 33, 34, 35, 36, 37] (fun y : List V × Nat × Nat => [(3, .c (V.row y.1)), (4, .c (.lit (.int .i64 (y.2.1 : Nat)))), (5, .c (.lit (.int .i64 (y.2.2 : Nat))))]) (fun _ => [.box b0 24 [.c (.lit (.int .i64 k0)), .c (.lit (.int .i64 n0)), .c (.lit (.string t0)), .c (V.row l0)]])
    (fun y => V.sizes y.1 ≤ 1048576 ∧ y.2.1 ≤ 3000 ∧ y.2.2 ≤ 301) (fun y => 302 - y.2.2) ([.mk k0 n0 t0 l0], 0, 0) ⟨by simpa [V.sizes] using hv, by simp, by simp⟩ ⟨rfl, rfl, rfl, trivial⟩ rfl ?_
  rintro ⟨l, n, dp⟩ ⟨hl, hn, hdp⟩
  dsimp only at hl hn hdp ⊢
  have hll := V.len_sizes l
  repeat (first | refine gG ?_ | refine zN1 (fun hlen => ?_) | refine zN2 (fun hlen => ?_) | refine zAl (fun _ => ?_) | refine zBx (fun _ => ?_) | refine zAp (fun _ => ?_))
  refine x_cond rfl (fun h => ?_) (fun h => ?_)
  · repeat (first | refine gG ?_ | refine zN1 (fun hlen => ?_) | refine zN2 (fun hlen => ?_) | refine zAl (fun _ => ?_) | refine zBx (fun _ => ?_) | refine zAp (fun _ => ?_))
    refine lo_add rfl rfl (r := ((n + l.length : Nat) : Int)) (by rw [IntWalk.i64_in _ (by omega)]; omega) ?_
    cases d1 : decide ((300 : Int) < (dp : Int))
    · cases d2 : decide ((3000 : Int) < ((n + l.length : Nat) : Int))
      · have hd1 : ¬ (300 : Int) < (dp : Int) := of_decide_eq_false d1
        have hd2 : ¬ (3000 : Int) < ((n + l.length : Nat) : Int) := of_decide_eq_false d2
        repeat (first | refine gG ?_ | refine zN1 (fun hlen => ?_) | refine zN2 (fun hlen => ?_) | refine zAl (fun _ => ?_) | refine zBx (fun _ => ?_) | refine zAp (fun _ => ?_))
        refine x_own 6 24 4 rfl rfl rfl rfl rfl ?_
        refine x_loop [6, 8, 28, 29, 30, 31, 32, 33, 34, 35, 36] (fun y : Nat × Value => [(28, .c (.lit (.int .i64 (y.1 : Nat)))), (6, .own 1 y.2)]) (fun y => [.box b0 24 [.c (.lit (.int .i64 k0)), .c (.lit (.int .i64 n0)), .c (.lit (.string t0)), .c (V.row l0)], .row y.2 24 4 ((l.take y.1).flatMap V.args).length (V.all ((l.take y.1).flatMap V.args))])
          (fun y => y.1 ≤ l.length) (fun y => l.length - y.1) (0, .slice none 0 0) (Nat.zero_le _) ⟨rfl, rfl, trivial⟩ rfl ?_
        rintro ⟨k, v⟩ hk
        dsimp only at hk ⊢
        repeat (first | refine gG ?_ | refine zN1 (fun hlen => ?_) | refine zN2 (fun hlen => ?_) | refine zAl (fun _ => ?_) | refine zBx (fun _ => ?_) | refine zAp (fun _ => ?_))
        refine x_cond rfl (fun h => ?_) (fun h => ?_)
        · have hk' : k < l.length := by simpa using h
          obtain ⟨a, ha⟩ := nth hk'
          have hsn := flat_snoc' V.args ha
          have hsz : ((l.take k).flatMap V.args).length + a.args.length ≤ 1048576 := by
            have h1 := V.len_sizes ((l.take (k + 1)).flatMap V.args)
            have h2 := V.sizes_flat (l.take (k + 1))
            have h3 := V.take_sizes l (k + 1)
            rw [hsn] at h1 h2
            rw [List.length_append] at h1
            omega
          repeat (first | refine gG ?_ | refine zN1 (fun hlen => ?_) | refine zN2 (fun hlen => ?_) | refine zAl (fun _ => ?_) | refine zBx (fun _ => ?_) | refine zAp (fun _ => ?_))
          refine zIx (k) (hk') ?_
          repeat (first | refine gG ?_ | refine zN1 (fun hlen => ?_) | refine zN2 (fun hlen => ?_) | refine zAl (fun _ => ?_) | refine zBx (fun _ => ?_) | refine zAp (fun _ => ?_))
          refine zEl (V.at ha) (V.ts_len a) ?_
          obtain ⟨ka, na, ta, la⟩ := a
          simp only [V.args] at hsz hsn
          repeat (first | refine gG ?_ | refine zN1 (fun hlen => ?_) | refine zN2 (fun hlen => ?_) | refine zAl (fun _ => ?_) | refine zBx (fun _ => ?_) | refine zAp (fun _ => ?_))
          exact ⟨(k + 1, _), hk', by simp only; omega, x_wkd 2 ⟨rfl, rfl, trivial⟩ (by simp only [hsn, V.all_app, List.length_append]; rfl) (by repeat (first | exact ag_refl | refine ag_upd rfl ?_ | refine ag_at rfl rfl ?_))⟩
        · have hk' : k = l.length := by have : ¬ k < l.length := by simpa using h
                                        omega
          subst hk'
          repeat (first | refine gG ?_ | refine zN1 (fun hlen => ?_) | refine zN2 (fun hlen => ?_) | refine zAl (fun _ => ?_) | refine zBx (fun _ => ?_) | refine zAp (fun _ => ?_))
          refine ⟨(l.flatMap V.args, n + l.length, dp + 1), ⟨?_, by simp only; omega, by simp only; omega⟩, by simp only; omega, (wk_frz hX 3 rfl rfl rfl rfl).trans (x_wkd 1 ⟨?_, rfl, rfl, trivial⟩ rfl (by repeat (first | exact ag_refl | refine ag_upd rfl ?_ | refine ag_at rfl rfl ?_)))⟩
          · have := V.sizes_flat l; simp only; omega
          · simp only [List.take_length]; rfl
      · repeat (first | refine gG ?_ | refine zN1 (fun hlen => ?_) | refine zN2 (fun hlen => ?_) | refine zAl (fun _ => ?_) | refine zBx (fun _ => ?_) | refine zAp (fun _ => ?_))
        first | refine zR ?_ | refine zQ ?_
        exact ⟨_, rfl⟩
    · repeat (first | refine gG ?_ | refine zN1 (fun hlen => ?_) | refine zN2 (fun hlen => ?_) | refine zAl (fun _ => ?_) | refine zBx (fun _ => ?_) | refine zAp (fun _ => ?_))
      first | refine zR ?_ | refine zQ ?_
      exact ⟨_, rfl⟩
  · repeat (first | refine gG ?_ | refine zN1 (fun hlen => ?_) | refine zN2 (fun hlen => ?_) | refine zAl (fun _ => ?_) | refine zBx (fun _ => ?_) | refine zAp (fun _ => ?_))
    first | refine zR ?_ | refine zQ ?_
    exact ⟨_, rfl⟩
set_option maxRecDepth 100000 in
set_option maxHeartbeats 1000000 in
theorem valuesSmall_af (l : List V) (hl : ∀ v ∈ l, v.size ≤ 1048576) (hn : l.length ≤ 1048576) : AF Try.prog 96 [V.row l] Tell := by
  refine af_enter tok Try.func96 Try.ntmps96 Try.results96 rfl (by kernel_rfl) rfl rfl fun F hX => ?_
  repeat (first | refine gG ?_ | refine zN1 (fun hlen => ?_) | refine zN2 (fun hlen => ?_) | refine zAl (fun _ => ?_))
  refine x_loop [2, 4, 7, 8, 9, 10, 11, 12, 13, 14] (fun k : Nat => [(7, .c (.lit (.int .i64 k)))]) (fun _ => []) (fun k => k ≤ l.length) (fun k => l.length - k) 0 (Nat.zero_le _) ⟨rfl, trivial⟩ rfl fun k hk => ?_
  repeat (first | refine gG ?_ | refine zN1 (fun hlen => ?_) | refine zN2 (fun hlen => ?_) | refine zAl (fun _ => ?_))
  refine x_cond rfl (fun h => ?_) (fun h => ?_)
  · have hk' : k < l.length := by simpa using h
    obtain ⟨a, ha⟩ := nth hk'
    have hs := valueSmall_af a (hl a (List.mem_of_getElem? ha))
    repeat (first | refine gG ?_ | refine zN1 (fun hlen => ?_) | refine zN2 (fun hlen => ?_) | refine zAl (fun _ => ?_))
    refine zIx (k) (hk') ?_
    repeat (first | refine gG ?_ | refine zN1 (fun hlen => ?_) | refine zN2 (fun hlen => ?_) | refine zAl (fun _ => ?_))
    refine zEl (V.at ha) (V.ts_len a) ?_
    obtain ⟨ka, na, ta, la⟩ := a
    repeat (first | refine gG ?_ | refine zN1 (fun hlen => ?_) | refine zN2 (fun hlen => ?_) | refine zAl (fun _ => ?_))
    refine zCall (hs) ?_
    rintro _ ⟨b, rfl⟩
    repeat (first | refine gG ?_ | refine zN1 (fun hlen => ?_) | refine zN2 (fun hlen => ?_) | refine zAl (fun _ => ?_))
    refine x_cond rfl (fun h => ?_) (fun h => ?_)
    · repeat (first | refine gG ?_ | refine zN1 (fun hlen => ?_) | refine zN2 (fun hlen => ?_) | refine zAl (fun _ => ?_))
      first | refine zR ?_ | refine zQ ?_
      exact ⟨_, rfl⟩
    · repeat (first | refine gG ?_ | refine zN1 (fun hlen => ?_) | refine zN2 (fun hlen => ?_) | refine zAl (fun _ => ?_))
      exact ⟨k + 1, hk', by omega, x_wkd 0 ⟨rfl, trivial⟩ rfl (by repeat (first | exact ag_refl | refine ag_upd rfl ?_ | refine ag_at rfl rfl ?_))⟩
  · repeat (first | refine gG ?_ | refine zN1 (fun hlen => ?_) | refine zN2 (fun hlen => ?_) | refine zAl (fun _ => ?_))
    first | refine zR ?_ | refine zQ ?_
    exact ⟨_, rfl⟩
end Go.Proofs.Ythgackidonocpaa
namespace Go.Proofs.Ythgackidonocpaa
open Go.RowKit
/-- 0, -1, 1, -2, 2 and so on asq 0, 1, 2, 3, 4 -/
def zz (n : Int) : Nat := if 0 ≤ n then (2 * n).toNat else (2 * (-n - 1) + 1).toNat
def inI (n : Int) : Prop := -9223372036854775808 ≤ n ∧ n ≤ 9223372036854775807
theorem zz_lt {n : Int} (h : inI n) : zz n < 2 ^ 64 := by
  unfold zz; unfold inI at h
  split <;> omega
/-- a number's lowest byte -/
def kb (k : Int) : UInt8 := UInt8.ofNat (k % 256).toNat
mutual
def V.bytes : V → List UInt8
  | .mk k n t l => kb k :: (uv (zz n) ++ (uv t.size ++ (t.data.toList ++ (uv l.length ++ V.bytesAll l))))
def V.bytesAll : List V → List UInt8
  | [] => []
  | v :: r => v.bytes ++ V.bytesAll r
end
theorem V.bytesAll_eq : ∀ l : List V, V.bytesAll l = l.flatMap V.bytes
  | [] => rfl
  | v :: l => by rw [V.bytesAll, V.bytesAll_eq l]; rfl
mutual
/-- every number is in range -/
def V.ok : V → Prop
  | .mk _ n _ l => inI n ∧ V.oks l
def V.oks : List V → Prop
  | [] => True
  | v :: r => v.ok ∧ V.oks r
end
theorem V.oks_iff : ∀ l : List V, V.oks l ↔ ∀ v ∈ l, v.ok
  | [] => by simp [V.oks]
  | v :: l => by simp [V.oks, V.oks_iff l]
mutual
/-- the bytes of its texts -/
def V.txt : V → Nat
  | .mk _ _ t l => t.size + V.txts l
def V.txts : List V → Nat
  | [] => 0
  | v :: r => v.txt + V.txts r
end
mutual
theorem V.bytes_len : ∀ v : V, v.ok → v.size ≤ 1048576 → v.txt ≤ 1048576 → v.bytes.length ≤ 32 * v.size + v.txt
  | .mk k n t l, ho, hs, ht => by
    simp only [V.ok, V.size, V.txt] at ho hs ht
    have h1 := uv_len64 (zz_lt ho.1)
    have h2 := uv_len64 (n := t.size) (by omega)
    have h3 := uv_len64 (n := l.length) (by have := V.len_sizes l; omega)
    have h4 := V.bytesAll_len l ho.2 (by omega) (by omega)
    simp only [V.bytes, V.size, V.txt, List.length_cons, List.length_append, sz_len]
    omega
theorem V.bytesAll_len : ∀ l : List V, V.oks l → V.sizes l ≤ 1048576 → V.txts l ≤ 1048576 → (V.bytesAll l).length ≤ 32 * V.sizes l + V.txts l
  | [], _, _, _ => by simp [V.bytesAll]
  | v :: l, ho, hs, ht => by
    simp only [V.oks, V.sizes, V.txts] at ho hs ht
    have h1 := V.bytes_len v ho.1 (by omega) (by omega)
    have h2 := V.bytesAll_len l ho.2 (by omega) (by omega)
    simp only [V.bytesAll, V.sizes, V.txts, List.length_append]
    omega
end
mutual
/-- every node of it, with how deep it lies -/
def V.every (p : V → Nat → Bool) : V → Nat → Bool
  | .mk k n t l, d => p (.mk k n t l) d && V.everys p l (d + 1)
def V.everys (p : V → Nat → Bool) : List V → Nat → Bool
  | [], _ => true
  | v :: r, d => v.every p d && V.everys p r d
end
theorem V.everys_eq (p : V → Nat → Bool) (d : Nat) : ∀ l : List V, V.everys p l d = l.all fun v => v.every p d
  | [] => rfl
  | v :: l => by rw [V.everys, V.everys_eq p d l]; rfl
def V.num : V → Int
  | .mk _ n _ _ => n
def V.kind : V → Int
  | .mk k _ _ _ => k
def V.text : V → ByteArray
  | .mk _ _ t _ => t
end Go.Proofs.Ythgackidonocpaa
namespace Go.Proofs.Ythgackidonocpaa
open Go.RowKit
structure RS where
  l : List UInt8
  bad : Bool
  dep : Nat
def dz (u : Nat) : Int := if u % 2 = 0 then ((u / 2 : Nat) : Int) else -((u / 2 : Nat) : Int) - 1
def V.zero : V := .mk 0 0 ⟨#[]⟩ []
def RS.up (s : RS) : RS := { s with dep := s.dep + 1 }
/-- how deep it is at most -/
def V.low (v : V) (d : Nat) : Bool := v.every (fun _ e => decide (e ≤ 40)) d
end Go.Proofs.Ythgackidonocpaa
namespace Go.Proofs.Ythgackidonocpaa
open Go.RowKit
theorem wrap_u64 (a : Int) : IntKind.u64.wrap a = a % 18446744073709551616 := by
  simp [IntKind.wrap, IntKind.bits, IntKind.signed]
theorem xor_ones {x : Nat} (h : x < 2 ^ 64) : x ^^^ (2 ^ 64 - 1) = 2 ^ 64 - 1 - x := by
  have h1 : (BitVec.ofNat 64 x ^^^ BitVec.allOnes 64).toNat = x ^^^ (2 ^ 64 - 1) := by
    rw [BitVec.toNat_xor, BitVec.toNat_ofNat, BitVec.toNat_allOnes, Nat.mod_eq_of_lt h]
  rw [← h1, BitVec.xor_allOnes, BitVec.toNat_not, BitVec.toNat_ofNat, Nat.mod_eq_of_lt h]
theorem zz_xor {n : Int} (h : inI n) : IntKind.u64.wrap ((((IntKind.u64.wrap (IntKind.u64.wrap n * 2 ^ (min (1 : Int).toNat IntKind.u64.bits))) % 2 ^ IntKind.u64.bits).toNat ^^^ ((IntKind.u64.wrap (n.fdiv (2 ^ (min (63 : Int).toNat IntKind.i64.bits)))) % 2 ^ IntKind.u64.bits).toNat : Nat) : Int) = ((zz n : Nat) : Int) := by
  have e1 : (2 : Int) ^ (min (1 : Int).toNat IntKind.u64.bits) = 2 := rfl
  have e2 : (2 : Int) ^ (min (63 : Int).toNat IntKind.i64.bits) = 9223372036854775808 := rfl
  have e3 : (2 : Int) ^ IntKind.u64.bits = 18446744073709551616 := rfl
  rw [e1, e2, e3, Int.fdiv_eq_ediv_of_nonneg _ (by omega)]
  simp only [wrap_u64]
  unfold inI at h
  unfold zz
  by_cases h0 : 0 ≤ n
  · rw [if_pos h0]
    have g1 : (n / 9223372036854775808 % 18446744073709551616 % 18446744073709551616).toNat = 0 := by omega
    rw [g1, Nat.xor_zero]
    omega
  · rw [if_neg h0]
    have g1 : (n / 9223372036854775808 % 18446744073709551616 % 18446744073709551616).toNat = 2 ^ 64 - 1 := by omega
    rw [g1, xor_ones (by omega)]
    omega
set_option maxRecDepth 100000 in
set_option maxHeartbeats 2000000 in
theorem nat_ag (v : Value) (l : List UInt8) (n : Nat) (hn : n < 9223372036854775808) (hl : l.length ≤ 1099511627776) :
    AG Try.prog 169 [.own 0 v, .c (.lit (.int .i64 (n : Int)))] [.row v 5 1 l.length (byts l)] (Grew 5 (l ++ uv n)) := by
  have hc := unsigned_ag v l n (by omega) hl
  refine ag_enter 1 tok Try.func169 Try.ntmps169 Try.results169 rfl (by kernel_rfl) rfl fun F => ?_
  repeat (first | refine gG ?_)
  refine lo_conv tok rfl rfl rfl rfl (r := (n : Int)) (by rw [wrap_u64]; omega) ?_
  repeat (first | refine gG ?_)
  refine zCallG [0] hc ?_
  rintro _ _ ⟨v', rfl, rfl⟩
  refine ⟨.own 0 v', _, re_own, rfl, rfl, ?_⟩
  repeat (first | refine gG ?_)
  refine zG ?_
  exact ⟨_, rfl, rfl⟩
set_option maxRecDepth 100000 in
set_option maxHeartbeats 2000000 in
theorem int_ag (v : Value) (l : List UInt8) (n : Int) (hn : inI n) (hl : l.length ≤ 1099511627776) :
    AG Try.prog 156 [.own 0 v, .c (.lit (.int .i64 n))] [.row v 5 1 l.length (byts l)] (Grew 5 (l ++ uv (zz n))) := by
  have hc := unsigned_ag v l (zz n) (zz_lt hn) hl
  refine ag_enter 1 tok Try.func156 Try.ntmps156 Try.results156 rfl (by kernel_rfl) rfl fun F => ?_
  repeat (first | refine gG ?_)
  refine lo_conv tok rfl rfl rfl rfl rfl ?_
  repeat (first | refine gG ?_)
  refine lo_shl rfl rfl (by omega) rfl ?_
  repeat (first | refine gG ?_)
  refine lo_shr rfl rfl (by omega) rfl ?_
  repeat (first | refine gG ?_)
  refine lo_conv tok rfl rfl rfl rfl rfl ?_
  repeat (first | refine gG ?_)
  refine lo_xor rfl rfl (zz_xor hn) ?_
  repeat (first | refine gG ?_)
  refine zCallG [0] hc ?_
  rintro _ _ ⟨v', rfl, rfl⟩
  refine ⟨.own 0 v', _, re_own, rfl, rfl, ?_⟩
  repeat (first | refine gG ?_)
  refine zG ?_
  exact ⟨_, rfl, rfl⟩
set_option maxRecDepth 100000 in
set_option maxHeartbeats 2000000 in
theorem text_ag (v : Value) (l : List UInt8) (s : ByteArray) (hl : l.length + s.size ≤ 1099511627776) :
    AG Try.prog 158 [.own 0 v, .c (.lit (.string s))] [.row v 5 1 l.length (byts l)] (Grew 5 (l ++ (uv s.size ++ s.data.toList))) := by
  have hc := nat_ag v l s.size (by omega) (by omega)
  have hul := uv_len64 (n := s.size) (by omega)
  refine ag_enter 1 tok Try.func158 Try.ntmps158 Try.results158 rfl (by kernel_rfl) rfl fun F => ?_
  repeat (first | refine gG ?_ | refine zN1 (fun hlen => ?_) | refine zN2 (fun hlen => ?_) | refine zAp (fun _ => ?_))
  refine zCallG [0] hc ?_
  rintro _ _ ⟨v', rfl, rfl⟩
  refine ⟨.own 0 v', _, re_own, rfl, rfl, ?_⟩
  repeat (first | refine gG ?_ | refine zN1 (fun hlen => ?_) | refine zN2 (fun hlen => ?_) | refine zAp (fun _ => ?_))
  refine zAps (s := s) (n := (l ++ uv s.size).length) (by simp only [List.length_append]; omega) (fun v'' => ?_)
  repeat (first | refine gG ?_ | refine zN1 (fun hlen => ?_) | refine zN2 (fun hlen => ?_) | refine zAp (fun _ => ?_))
  refine zG ?_
  exact ⟨_, rfl, by simp only [byts_app, List.length_append, sz_len, List.append_assoc, Nat.add_assoc]⟩
end Go.Proofs.Ythgackidonocpaa
namespace Go.Proofs.Ythgackidonocpaa
open Go.RowKit
theorem kb_T (k : Int) : bytT (kb k) = T.lit (.int .u8 (IntKind.u8.wrap k)) := by
  have h1 : IntKind.u8.wrap k = k % 256 := by simp [IntKind.wrap, IntKind.bits, IntKind.signed]
  have h2 : (k % 256).toNat < 256 := by omega
  unfold bytT kb
  rw [h1, UInt8.toNat_ofNat', Nat.mod_eq_of_lt (by simpa using h2)]
  congr 2
  omega
set_option maxRecDepth 100000 in
set_option maxHeartbeats 2000000 in
theorem listV_ag (f : FuncId) (enc : V → List UInt8) (l : List V) (hf : ∀ x ∈ l, ∀ (v : Value) (b : List UInt8), b.length + (enc x).length ≤ 1099511627776 → AG Try.prog f [.own 0 v, .c x.t] [.row v 5 1 b.length (byts b)] (Grew 5 (b ++ enc x)))
    (v : Value) (b : List UInt8) (hn : l.length < 9223372036854775808) (hb : b.length + (uv l.length ++ l.flatMap enc).length ≤ 1099511627776) :
    AG Try.prog 157 [.own 0 v, .c (V.row l), .fn (.func f) []] [.row v 5 1 b.length (byts b)] (Grew 5 (b ++ (uv l.length ++ l.flatMap enc))) := by
  have hc := nat_ag v b l.length hn (by omega)
  refine ag_enter 1 tok Try.func157 Try.ntmps157 Try.results157 rfl (by kernel_rfl) rfl fun F => ?_
  repeat (first | refine gG ?_ | refine zN1 (fun hlen => ?_) | refine zN2 (fun hlen => ?_) | refine zAl (fun _ => ?_))
  refine zCallG [0] hc ?_
  rintro _ _ ⟨v', rfl, rfl⟩
  refine ⟨.own 0 v', _, re_own, rfl, rfl, ?_⟩
  repeat (first | refine gG ?_ | refine zN1 (fun hlen => ?_) | refine zN2 (fun hlen => ?_) | refine zAl (fun _ => ?_))
  refine x_loop [0, 8, 15, 16, 17, 18, 19, 20, 21, 22, 23] (fun y : Nat × Value => [(15, .c (.lit (.int .i64 (y.1 : Nat)))), (0, .own 0 y.2)]) (fun y => [.row y.2 5 1 (b ++ (uv l.length ++ (l.take y.1).flatMap enc)).length (byts (b ++ (uv l.length ++ (l.take y.1).flatMap enc)))])
    (fun y => y.1 ≤ l.length) (fun y => l.length - y.1) (0, v') (Nat.zero_le _) ⟨rfl, rfl, trivial⟩ (by simp) ?_
  rintro ⟨k, u⟩ hk
  dsimp only at hk ⊢
  repeat (first | refine gG ?_ | refine zN1 (fun hlen => ?_) | refine zN2 (fun hlen => ?_) | refine zAl (fun _ => ?_))
  refine x_cond rfl (fun h => ?_) (fun h => ?_)
  · have hk' : k < l.length := by simpa using h
    obtain ⟨a, ha⟩ := nth hk'
    have hsn := flat_snoc' enc ha
    have hle : ((l.take (k + 1)).flatMap enc).length ≤ (l.flatMap enc).length := by
      have := congrArg (fun r => (List.flatMap enc r).length) (List.take_append_drop (k + 1) l)
      simp only [List.flatMap_append, List.length_append] at this
      omega
    have hca := hf a (List.mem_of_getElem? ha) u (b ++ (uv l.length ++ (l.take k).flatMap enc)) (by
      rw [hsn] at hle
      simp only [List.length_append] at hle hb ⊢
      omega)
    repeat (first | refine gG ?_ | refine zN1 (fun hlen => ?_) | refine zN2 (fun hlen => ?_) | refine zAl (fun _ => ?_))
    refine zIx (k) (hk') ?_
    repeat (first | refine gG ?_ | refine zN1 (fun hlen => ?_) | refine zN2 (fun hlen => ?_) | refine zAl (fun _ => ?_))
    refine zEl (V.at ha) (V.ts_len a) ?_
    obtain ⟨ka, na, ta, la⟩ := a
    repeat (first | refine gG ?_ | refine zN1 (fun hlen => ?_) | refine zN2 (fun hlen => ?_) | refine zAl (fun _ => ?_))
    refine zCallG [0] hca ?_
    rintro _ _ ⟨u', rfl, rfl⟩
    refine ⟨.own 0 u', _, re_own, rfl, rfl, ?_⟩
    repeat (first | refine gG ?_ | refine zN1 (fun hlen => ?_) | refine zN2 (fun hlen => ?_) | refine zAl (fun _ => ?_))
    exact ⟨(k + 1, u'), hk', by simp only; omega, x_wkd 1 ⟨rfl, rfl, trivial⟩ (by simp only [hsn, List.append_assoc]; rfl) (by repeat (first | exact ag_refl | refine ag_upd rfl ?_ | refine ag_at rfl rfl ?_))⟩
  · have hk' : k = l.length := by have : ¬ k < l.length := by simpa using h
                                  omega
    subst hk'
    repeat (first | refine gG ?_ | refine zN1 (fun hlen => ?_) | refine zN2 (fun hlen => ?_) | refine zAl (fun _ => ?_))
    refine zG ?_
    refine ⟨_, rfl, ?_⟩
    rw [List.take_length]
set_option maxRecDepth 100000 in
set_option maxHeartbeats 2000000 in
theorem appendValue_ag (x : V) : x.ok → ∀ (v : Value) (b : List UInt8), b.length + x.bytes.length ≤ 1099511627776 →
    AG Try.prog 74 [.own 0 v, .c x.t] [.row v 5 1 b.length (byts b)] (Grew 5 (b ++ x.bytes)) := by
  induction x using V.ind with
  | h k n t l ih =>
    intro hok v b hb
    simp only [V.ok] at hok
    have hok2 := (V.oks_iff l).1 hok.2
    simp only [V.bytes, V.bytesAll_eq, List.length_cons, List.length_append, sz_len] at hb
    have hi1 : ∀ v1, AG Try.prog 156 [.own 0 v1, .c (.lit (.int .i64 n))] [.row v1 5 1 (b.length + 1) (byts b ++ [.lit (.int .u8 (IntKind.u8.wrap k))])] (Grew 5 (b ++ (kb k :: uv (zz n)))) := by
      intro v1
      have h := int_ag v1 (b ++ [kb k]) n hok.1 (by simp only [List.length_append, List.length_cons, List.length_nil]; omega)
      rw [← kb_T]
      simpa [byts] using h
    have hi2 := fun v2 => text_ag v2 (b ++ (kb k :: uv (zz n))) t (by simp only [List.length_append, List.length_cons]; omega)
    have hln : l.length ≤ 1099511627776 := by
      have h1 : ∀ r : List V, r.length ≤ (r.flatMap V.bytes).length := by
        intro r
        induction r with
        | nil => simp
        | cons a r ih => obtain ⟨ka, na, ta, la⟩ := a; simp only [List.flatMap_cons, List.length_append, List.length_cons, V.bytes]; omega
      have := h1 l
      omega
    have hi3 := fun v3 => listV_ag 74 V.bytes l (fun x hx v b hb => ih x hx (hok2 x hx) v b hb) v3 (b ++ (kb k :: uv (zz n)) ++ (uv t.size ++ t.data.toList)) (by omega) (by simp only [List.length_append, List.length_cons, sz_len]; omega)
    refine ag_enter 1 tok Try.func74 Try.ntmps74 Try.results74 rfl (by kernel_rfl) rfl fun F => ?_
    repeat (first | refine gG ?_ | refine zBf ?_ | refine zAp (fun _ => ?_))
    refine ac_draw [1, 1, 1, 1, 1, 2, 0, 0, 2, 1] [0, 1, 2, 3, 4, 6, 7, 5, 8, 9] (by kernel_rfl) (by kernel_rfl) ?_
    refine gW ?_
    apply w_q; (focus exact rfl); (focus exact rfl); focus (intro _; (refine lo_conv tok rfl rfl rfl rfl rfl ?_); exact det_refl)
    refine gW ?_
    apply w_l; (focus exact rfl); (focus exact rfl); (first | (refine zkL ?_; first | refine zL1 ?_ | refine zL2 ?_ | refine zL3 ?_ | refine zLp ?_) | refine zM ?_ | (refine zkF ?_; first | refine zF1 ?_ | refine zF2 ?_ | refine zF3 ?_) | refine zA ?_ | (refine zkB ?_; first | refine zC5 ?_ | refine zC6 ?_ | refine zC1 ?_ | refine zC2 ?_ | refine zC3 ?_ | refine zC4 ?_ | refine zS5 ?_ | refine zS6 ?_ | refine zS1 ?_ | refine zS2 ?_ | refine zS3 ?_ | refine zS4 ?_ | refine zInc ?_ | refine zQ1 ?_ | refine zQ2 ?_ | refine zQ3 ?_ | refine zQ4 ?_ | refine zQ5 ?_ | refine zQ6 ?_) | (refine zkI ?_; first | refine zN1 (fun hlen => ?_) | refine zN2 (fun hlen => ?_) | refine zN3 ?_ | refine zN4 ?_ | refine zAp (fun _ => ?_)) | refine zS ?_ | refine zAl (fun _ => ?_) | refine zBx (fun _ => ?_) | refine zPt ?_ | refine zPf ?_ | refine zE ?_ | refine zEA ?_ | refine zNot ?_ | refine zBd ?_ | refine zBs ?_ | refine zFn ?_ | refine zK1 ?_ | refine zK2 ?_)
    apply w_l; (focus exact rfl); (focus exact rfl); (refine zCallG [0] (hi1 _) ?_; rintro _ _ ⟨v', rfl, rfl⟩; refine ⟨.own 0 v', _, re_own, rfl, rfl, ?_⟩)
    refine gW ?_
    refine w_nil ?_
    repeat (first | refine gG ?_ | refine zBx (fun _ => ?_) | refine zAp (fun _ => ?_))
    rename_i v2
    refine ac_draw [1, 1, 1, 2, 0, 0, 2, 1] [0, 1, 2, 4, 5, 3, 6, 7] (by kernel_rfl) (by kernel_rfl) ?_
    refine gW ?_
    apply w_l; (focus exact rfl); (focus exact rfl); (refine zCallG [0] (hi2 _) ?_; rintro _ _ ⟨v', rfl, rfl⟩; refine ⟨.own 0 v', _, re_own, rfl, rfl, ?_⟩)
    apply w_l; (focus exact rfl); (focus exact rfl); (refine zCallG [0] (hi3 _) ?_; rintro _ _ ⟨v', rfl, rfl⟩; refine ⟨.own 0 v', _, re_own, rfl, rfl, ?_⟩)
    refine gW ?_
    refine w_nil ?_
    repeat (first | refine gG ?_ | refine zBx (fun _ => ?_) | refine zAp (fun _ => ?_))
    refine zG ?_
    exact ⟨_, rfl, by simp only [V.bytes, V.bytesAll_eq, List.append_assoc, List.cons_append]⟩
end Go.Proofs.Ythgackidonocpaa
namespace Go.Proofs.Ythgackidonocpaa
open Go.RowKit
theorem all_snoc {α : Type} (q : α → Bool) {l : List α} {k : Nat} {a : α} (h : l[k]? = some a) : (l.take (k + 1)).all q = ((l.take k).all q && q a) := by
  obtain ⟨h1, rfl⟩ := List.getElem?_eq_some_iff.1 h
  rw [List.take_succ_eq_append_getElem h1, List.all_append]
  simp
theorem all_no {α : Type} (q : α → Bool) {l : List α} {k : Nat} {a : α} (h : l[k]? = some a) (hq : q a = false) : l.all q = false := by
  rw [List.all_eq_false]
  exact ⟨a, List.mem_of_getElem? h, by simp [hq]⟩
/-- not too deep, no text too long -/
def bigN (x : V) (d : Nat) : Bool := !decide ((40 : Int) < (d : Int)) && !decide ((4000 : Int) < (x.text.size : Int))
def V.fitB (v : V) (L d : Nat) : Bool := decide (v.size ≤ L) && v.every bigN d
theorem V.fitB_eq (k n : Int) (t : ByteArray) (l : List V) (L d : Nat) : (V.mk k n t l).fitB L d = (decide (V.sizes l + 1 ≤ L) && ((!decide ((40 : Int) < (d : Int)) && !decide ((4000 : Int) < (t.size : Int))) && l.all fun x => x.every bigN (d + 1))) := by
  simp only [V.fitB, V.size, V.every, V.everys_eq, bigN, V.text]
  rfl
theorem V.sizes_snoc {l : List V} {k : Nat} {a : V} (h : l[k]? = some a) : V.sizes (l.take (k + 1)) = V.sizes (l.take k) + a.size := by
  obtain ⟨h1, rfl⟩ := List.getElem?_eq_some_iff.1 h
  rw [List.take_succ_eq_append_getElem h1, V.sizes_app]
  simp [V.sizes]
set_option maxRecDepth 100000 in
set_option maxHeartbeats 2000000 in
theorem fits_ag (v : V) : ∀ (L d b : Nat), L ≤ 400 → d ≤ 41 →
    AG Try.prog 76 [.c v.t, .ptr 0 b 0, .c (.lit (.int .i64 (d : Int)))] [.box b 3 [.c (.lit (.int .i64 (L : Int)))]]
      (fun r hs => ∃ x : Int, hs = [.box b 3 [.c (.lit (.int .i64 x))]] ∧ r = .c (.lit (.bool (v.fitB L d))) ∧ (v.fitB L d = true → x = (L : Int) - (v.size : Int))) := by
  induction v using V.ind with
  | h k n t l ih =>
    intro L d b hL hd
    refine ag_enter 1 tok Try.func76 Try.ntmps76 Try.results76 rfl (by kernel_rfl) rfl fun F => ?_
    repeat (first | refine gG ?_ | refine zN1 (fun hlen => ?_) | refine zN2 (fun hlen => ?_) | refine zAl (fun _ => ?_) | refine zBf ?_)
    refine zSub ?_
    cases d1 : decide ((L : Int) - 1 < 0)
    · cases d2 : decide ((40 : Int) < (d : Int))
      · cases d3 : decide ((4000 : Int) < (t.size : Int))
        · have hd1 : ¬ (L : Int) - 1 < 0 := of_decide_eq_false d1
          have hd2 : ¬ (40 : Int) < (d : Int) := of_decide_eq_false d2
          have hL1 : ((L - 1 : Nat) : Int) = (L : Int) - 1 := by omega
          repeat (first | refine gG ?_ | refine zN1 (fun hlen => ?_) | refine zN2 (fun hlen => ?_) | refine zAl (fun _ => ?_) | refine zBx (fun _ => ?_))
          refine x_loop [6, 8, 31, 32, 33, 34, 35, 36, 37, 38, 39, 40, 41] (fun y : Nat × Nat => [(31, .c (.lit (.int .i64 (y.1 : Nat))))]) (fun y => [.box b 3 [.c (.lit (.int .i64 (y.2 : Int)))]])
            (fun y => y.1 ≤ l.length ∧ y.2 + 1 + V.sizes (l.take y.1) = L ∧ (l.take y.1).all (fun x => x.every bigN (d + 1)) = true) (fun y => l.length - y.1) (0, L - 1) ⟨Nat.zero_le _, by simp [V.sizes]; omega, by simp⟩ ⟨rfl, trivial⟩ (by simp only [hL1]) ?_
          rintro ⟨i, m⟩ ⟨hi, hm, ha⟩
          dsimp only at hi hm ha ⊢
          repeat (first | refine gG ?_ | refine zN1 (fun hlen => ?_) | refine zN2 (fun hlen => ?_) | refine zAl (fun _ => ?_) | refine zBx (fun _ => ?_))
          refine x_cond rfl (fun h => ?_) (fun h => ?_)
          · have hi' : i < l.length := by simpa using h
            obtain ⟨a, hla⟩ := nth hi'
            have hc := ih a (List.mem_of_getElem? hla) m (d + 1) b (by omega) (by omega)
            have hsn := V.sizes_snoc hla
            have hsa := all_snoc (fun x => x.every bigN (d + 1)) hla
            have hle := V.take_sizes l (i + 1)
            repeat (first | refine gG ?_ | refine zN1 (fun hlen => ?_) | refine zN2 (fun hlen => ?_) | refine zAl (fun _ => ?_) | refine zBx (fun _ => ?_))
            refine zIx (i) (hi') ?_
            repeat (first | refine gG ?_ | refine zN1 (fun hlen => ?_) | refine zN2 (fun hlen => ?_) | refine zAl (fun _ => ?_) | refine zBx (fun _ => ?_))
            refine zEl (V.at hla) (V.ts_len a) ?_
            obtain ⟨ka, na, ta, la⟩ := a
            repeat (first | refine gG ?_ | refine zN1 (fun hlen => ?_) | refine zN2 (fun hlen => ?_) | refine zAl (fun _ => ?_) | refine zBx (fun _ => ?_))
            refine zCallG [0] hc ?_
            rintro _ _ ⟨x, rfl, rfl, hx⟩
            refine ⟨_, _, re_refl, rfl, rfl, ?_⟩
            cases hf : (V.mk ka na ta la).fitB m (d + 1)
            · repeat (first | refine gG ?_ | refine zN1 (fun hlen => ?_) | refine zN2 (fun hlen => ?_) | refine zAl (fun _ => ?_) | refine zBx (fun _ => ?_))
              refine zG ?_
              refine ⟨_, rfl, ?_, ?_⟩
              all_goals
                have hno : (V.mk k n t l).fitB L d = false := by
                  simp only [V.fitB, Bool.and_eq_false_iff, decide_eq_false_iff_not] at hf ⊢
                  rcases hf with hf | hf
                  · left; simp only [V.size] at hsn hf ⊢; omega
                  · right; rw [V.every, V.everys_eq, all_no _ hla hf, Bool.and_false]
                rw [hno]
              · rfl
              · intro h; cases h
            · have hx' := hx hf
              simp only [V.fitB, Bool.and_eq_true, decide_eq_true_eq] at hf
              repeat (first | refine gG ?_ | refine zN1 (fun hlen => ?_) | refine zN2 (fun hlen => ?_) | refine zAl (fun _ => ?_) | refine zBx (fun _ => ?_))
              refine ⟨(i + 1, m - (V.mk ka na ta la).size), ⟨hi', by simp only; omega, by simp only; rw [hsa, ha, hf.2]; rfl⟩, by simp only; omega, x_wkd 1 ⟨rfl, trivial⟩ ?_ (by repeat (first | exact ag_refl | refine ag_upd rfl ?_ | refine ag_at rfl rfl ?_))⟩
              have : ((m - (V.mk ka na ta la).size : Nat) : Int) = x := by omega
              simp only [this]
              rfl
          · have hi' : i = l.length := by have : ¬ i < l.length := by simpa using h
                                          omega
            subst hi'
            rw [List.take_length] at hm ha
            have hyes : (V.mk k n t l).fitB L d = true := by
              rw [V.fitB_eq, d2, d3, ha, decide_eq_true (show V.sizes l + 1 ≤ L by omega)]
              rfl
            repeat (first | refine gG ?_ | refine zN1 (fun hlen => ?_) | refine zN2 (fun hlen => ?_) | refine zAl (fun _ => ?_) | refine zBx (fun _ => ?_))
            refine zG ?_
            refine ⟨_, rfl, by rw [hyes]; rfl, fun _ => by simp only [V.size]; omega⟩
        · have hno : (V.mk k n t l).fitB L d = false := by rw [V.fitB_eq, d3]; simp
          repeat (first | refine gG ?_ | refine zN1 (fun hlen => ?_) | refine zN2 (fun hlen => ?_) | refine zAl (fun _ => ?_) | refine zBx (fun _ => ?_))
          refine zG ?_
          refine ⟨_, rfl, by rw [hno]; rfl, fun h => by rw [hno] at h; cases h⟩
      · have hno : (V.mk k n t l).fitB L d = false := by rw [V.fitB_eq, d2]; simp
        repeat (first | refine gG ?_ | refine zN1 (fun hlen => ?_) | refine zN2 (fun hlen => ?_) | refine zAl (fun _ => ?_) | refine zBx (fun _ => ?_))
        refine zG ?_
        refine ⟨_, rfl, by rw [hno]; rfl, fun h => by rw [hno] at h; cases h⟩
    · have hno : (V.mk k n t l).fitB L d = false := by
        have hd1 : (L : Int) - 1 < 0 := of_decide_eq_true d1
        rw [V.fitB_eq, decide_eq_false (show ¬ V.sizes l + 1 ≤ L by omega)]
        rfl
      repeat (first | refine gG ?_ | refine zN1 (fun hlen => ?_) | refine zN2 (fun hlen => ?_) | refine zAl (fun _ => ?_) | refine zBx (fun _ => ?_))
      refine zG ?_
      refine ⟨_, rfl, by rw [hno]; rfl, fun h => by rw [hno] at h; cases h⟩
/-- a node uses only the fields of its kind -/
def formN : V → Bool
  | .mk k n t l =>
    if k = 1 then decide (n = 0) && decide (t = ⟨#[]⟩) && decide ((l.length : Int) = 0)
    else if k = 2 then decide (t = ⟨#[]⟩) && decide ((l.length : Int) = 0)
    else if k = 6 then decide (t = ⟨#[]⟩) && decide ((l.length : Int) = 0)
    else if k = 3 then (decide (n = 0) || decide (n = 1)) && decide (t = ⟨#[]⟩) && decide ((l.length : Int) = 0)
    else if k = 4 then decide (n = 0) && decide ((l.length : Int) = 0)
    else if k = 5 then decide (n = 0) && !decide (t = ⟨#[]⟩)
    else if k = 7 then true
    else if k = 8 then decide (n = 0) && decide (t = ⟨#[]⟩) && decide ((l.length : Int) ≤ 1)
    else false
def formP (x : V) (_ : Nat) : Bool := formN x
theorem V.form_eq (k n : Int) (t : ByteArray) (l : List V) (d : Nat) : (V.mk k n t l).every formP d = (formN (.mk k n t l) && l.all fun x => x.every formP (d + 1)) := by
  rw [V.every, V.everys_eq]; rfl
set_option maxRecDepth 100000 in
set_option maxHeartbeats 2000000 in
theorem formed_af (v : V) : ∀ d : Nat, AF Try.prog 77 [v.t] (· = .lit (.bool (v.every formP d))) := by
  induction v using V.ind with
  | h k n t l ih =>
    intro d
    refine af_enter tok Try.func77 Try.ntmps77 Try.results77 rfl (by kernel_rfl) rfl rfl fun F hX => ?_
    repeat (first | refine gG ?_ | refine zN1 (fun hlen => ?_) | refine zN2 (fun hlen => ?_) | refine zAl (fun _ => ?_) | refine zBf ?_)
    refine ac_draw [1, 1, 1, 1, 1, 1, 1, 1, 1, 1, 1, 1, 1] [0, 1, 2, 3, 4, 5, 6, 7, 8, 9, 10, 11, 12] (by kernel_rfl) (by kernel_rfl) ?_
    refine gW ?_
    refine w_nil ?_
    refine ac_seq ?_
    refine x_join [18, 19, 20, 21, 22, 23, 24, 25, 26, 27, 28, 29, 30, 31, 32, 33, 34, 35, 36, 37, 38, 39, 40, 41, 42, 43, 44, 45, 46, 47, 48, 2, 3, 4, 5] (fun y : {y : Bool × Bool × Bool // (y.1 && y.2.1 && y.2.2) = formN (.mk k n t l)} => [(3, .c (.lit (.bool y.1.1))), (4, .c (.lit (.bool y.1.2.1))), (5, .c (.lit (.bool y.1.2.2)))]) (fun _ => []) ?_ ?_
    rotate_left
    · cases d1 : decide (k = 1)
      · cases d2 : decide (k = 2)
        · cases d6 : decide (k = 6)
          · cases d3 : decide (k = 3)
            · cases d4 : decide (k = 4)
              · cases d5 : decide (k = 5)
                · cases d7 : decide (k = 7)
                  · cases d8 : decide (k = 8)
                    · have hno : formN (.mk k n t l) = false := by simp_all [formN]
                      repeat (first | refine gG ?_ | refine zN1 (fun hlen => ?_) | refine zN2 (fun hlen => ?_) | refine zAl (fun _ => ?_) | refine zBx (fun _ => ?_))
                      first | refine zR ?_ | refine zQ ?_
                      rw [V.form_eq, hno]; rfl
                    · obtain rfl := of_decide_eq_true d8
                      repeat (first | refine gG ?_ | refine zN1 (fun hlen => ?_) | refine zN2 (fun hlen => ?_) | refine zAl (fun _ => ?_) | refine zBx (fun _ => ?_))
                      exact ⟨⟨(decide (n = 0), decide (t = ⟨#[]⟩), decide ((l.length : Int) ≤ 1)), by simp [formN]⟩, x_wkd 0 ⟨rfl, rfl, rfl, trivial⟩ rfl (by repeat (first | exact ag_refl | refine ag_upd rfl ?_ | refine ag_at rfl rfl ?_))⟩
                  · obtain rfl := of_decide_eq_true d7
                    repeat (first | refine gG ?_ | refine zN1 (fun hlen => ?_) | refine zN2 (fun hlen => ?_) | refine zAl (fun _ => ?_) | refine zBx (fun _ => ?_))
                    exact ⟨⟨(true, true, true), by simp [formN]⟩, x_wkd 0 ⟨rfl, rfl, rfl, trivial⟩ rfl (by repeat (first | exact ag_refl | refine ag_upd rfl ?_ | refine ag_at rfl rfl ?_))⟩
                · obtain rfl := of_decide_eq_true d5
                  repeat (first | refine gG ?_ | refine zN1 (fun hlen => ?_) | refine zN2 (fun hlen => ?_) | refine zAl (fun _ => ?_) | refine zBx (fun _ => ?_))
                  exact ⟨⟨(decide (n = 0), !decide (t = ⟨#[]⟩), true), by simp [formN]⟩, x_wkd 0 ⟨rfl, rfl, rfl, trivial⟩ rfl (by repeat (first | exact ag_refl | refine ag_upd rfl ?_ | refine ag_at rfl rfl ?_))⟩
              · obtain rfl := of_decide_eq_true d4
                repeat (first | refine gG ?_ | refine zN1 (fun hlen => ?_) | refine zN2 (fun hlen => ?_) | refine zAl (fun _ => ?_) | refine zBx (fun _ => ?_))
                exact ⟨⟨(decide (n = 0), true, decide ((l.length : Int) = 0)), by simp [formN]⟩, x_wkd 0 ⟨rfl, rfl, rfl, trivial⟩ rfl (by repeat (first | exact ag_refl | refine ag_upd rfl ?_ | refine ag_at rfl rfl ?_))⟩
            · obtain rfl := of_decide_eq_true d3
              cases dz : decide (n = 0)
              · repeat (first | refine gG ?_ | refine zN1 (fun hlen => ?_) | refine zN2 (fun hlen => ?_) | refine zAl (fun _ => ?_) | refine zBx (fun _ => ?_))
                exact ⟨⟨(decide (n = 1), decide (t = ⟨#[]⟩), decide ((l.length : Int) = 0)), by simp [formN, dz]⟩, x_wkd 0 ⟨rfl, rfl, rfl, trivial⟩ rfl (by repeat (first | exact ag_refl | refine ag_upd rfl ?_ | refine ag_at rfl rfl ?_))⟩
              · repeat (first | refine gG ?_ | refine zN1 (fun hlen => ?_) | refine zN2 (fun hlen => ?_) | refine zAl (fun _ => ?_) | refine zBx (fun _ => ?_))
                exact ⟨⟨(true, decide (t = ⟨#[]⟩), decide ((l.length : Int) = 0)), by simp [formN, dz]⟩, x_wkd 0 ⟨rfl, rfl, rfl, trivial⟩ rfl (by repeat (first | exact ag_refl | refine ag_upd rfl ?_ | refine ag_at rfl rfl ?_))⟩
          · obtain rfl := of_decide_eq_true d6
            repeat (first | refine gG ?_ | refine zN1 (fun hlen => ?_) | refine zN2 (fun hlen => ?_) | refine zAl (fun _ => ?_) | refine zBx (fun _ => ?_))
            exact ⟨⟨(true, decide (t = ⟨#[]⟩), decide ((l.length : Int) = 0)), by simp [formN]⟩, x_wkd 0 ⟨rfl, rfl, rfl, trivial⟩ rfl (by repeat (first | exact ag_refl | refine ag_upd rfl ?_ | refine ag_at rfl rfl ?_))⟩
        · obtain rfl := of_decide_eq_true d2
          repeat (first | refine gG ?_ | refine zN1 (fun hlen => ?_) | refine zN2 (fun hlen => ?_) | refine zAl (fun _ => ?_) | refine zBx (fun _ => ?_))
          exact ⟨⟨(true, decide (t = ⟨#[]⟩), decide ((l.length : Int) = 0)), by simp [formN]⟩, x_wkd 0 ⟨rfl, rfl, rfl, trivial⟩ rfl (by repeat (first | exact ag_refl | refine ag_upd rfl ?_ | refine ag_at rfl rfl ?_))⟩
      · obtain rfl := of_decide_eq_true d1
        repeat (first | refine gG ?_ | refine zN1 (fun hlen => ?_) | refine zN2 (fun hlen => ?_) | refine zAl (fun _ => ?_) | refine zBx (fun _ => ?_))
        exact ⟨⟨(decide (n = 0), decide (t = ⟨#[]⟩), decide ((l.length : Int) = 0)), by simp [formN]⟩, x_wkd 0 ⟨rfl, rfl, rfl, trivial⟩ rfl (by repeat (first | exact ag_refl | refine ag_upd rfl ?_ | refine ag_at rfl rfl ?_))⟩
    rintro ⟨⟨y1, y2, y3⟩, hy⟩
    dsimp only at hy ⊢
    cases y1
    · repeat (first | refine gG ?_ | refine zN1 (fun hlen => ?_) | refine zN2 (fun hlen => ?_) | refine zAl (fun _ => ?_) | refine zBx (fun _ => ?_))
      first | refine zR ?_ | refine zQ ?_
      rw [V.form_eq, ← hy]; rfl
    cases y2
    · repeat (first | refine gG ?_ | refine zN1 (fun hlen => ?_) | refine zN2 (fun hlen => ?_) | refine zAl (fun _ => ?_) | refine zBx (fun _ => ?_))
      first | refine zR ?_ | refine zQ ?_
      rw [V.form_eq, ← hy]; rfl
    cases y3
    · repeat (first | refine gG ?_ | refine zN1 (fun hlen => ?_) | refine zN2 (fun hlen => ?_) | refine zAl (fun _ => ?_) | refine zBx (fun _ => ?_))
      first | refine zR ?_ | refine zQ ?_
      rw [V.form_eq, ← hy]; rfl
    repeat (first | refine gG ?_ | refine zN1 (fun hlen => ?_) | refine zN2 (fun hlen => ?_) | refine zAl (fun _ => ?_) | refine zBx (fun _ => ?_))
    refine x_loop [2, 7, 62, 63, 64, 65, 66, 67, 68, 69] (fun y : Nat => [(62, .c (.lit (.int .i64 (y : Nat))))]) (fun _ => []) (fun y => y ≤ l.length ∧ (l.take y).all (fun x => x.every formP (d + 1)) = true) (fun y => l.length - y) 0 ⟨Nat.zero_le _, by simp⟩ ⟨rfl, trivial⟩ rfl ?_
    rintro i ⟨hi, ha⟩
    repeat (first | refine gG ?_ | refine zN1 (fun hlen => ?_) | refine zN2 (fun hlen => ?_) | refine zAl (fun _ => ?_) | refine zBx (fun _ => ?_))
    refine x_cond rfl (fun h => ?_) (fun h => ?_)
    · have hi' : i < l.length := by simpa using h
      obtain ⟨a, hla⟩ := nth hi'
      have hc := ih a (List.mem_of_getElem? hla) (d + 1)
      have hsa := all_snoc (fun x => x.every formP (d + 1)) hla
      repeat (first | refine gG ?_ | refine zN1 (fun hlen => ?_) | refine zN2 (fun hlen => ?_) | refine zAl (fun _ => ?_) | refine zBx (fun _ => ?_))
      refine zIx (i) (hi') ?_
      repeat (first | refine gG ?_ | refine zN1 (fun hlen => ?_) | refine zN2 (fun hlen => ?_) | refine zAl (fun _ => ?_) | refine zBx (fun _ => ?_))
      refine zEl (V.at hla) (V.ts_len a) ?_
      obtain ⟨ka, na, ta, la⟩ := a
      repeat (first | refine gG ?_ | refine zN1 (fun hlen => ?_) | refine zN2 (fun hlen => ?_) | refine zAl (fun _ => ?_) | refine zBx (fun _ => ?_))
      refine zCall (hc) ?_
      rintro _ rfl
      cases hf : (V.mk ka na ta la).every formP (d + 1)
      · repeat (first | refine gG ?_ | refine zN1 (fun hlen => ?_) | refine zN2 (fun hlen => ?_) | refine zAl (fun _ => ?_) | refine zBx (fun _ => ?_))
        first | refine zR ?_ | refine zQ ?_
        rw [V.form_eq, all_no _ hla hf, Bool.and_false]; rfl
      · repeat (first | refine gG ?_ | refine zN1 (fun hlen => ?_) | refine zN2 (fun hlen => ?_) | refine zAl (fun _ => ?_) | refine zBx (fun _ => ?_))
        exact ⟨i + 1, ⟨hi', by rw [hsa, ha, hf]; rfl⟩, by omega, x_wkd 0 ⟨rfl, trivial⟩ rfl (by repeat (first | exact ag_refl | refine ag_upd rfl ?_ | refine ag_at rfl rfl ?_))⟩
    · have hi' : i = l.length := by have : ¬ i < l.length := by simpa using h
                                    omega
      subst hi'
      rw [List.take_length] at ha
      repeat (first | refine gG ?_ | refine zN1 (fun hlen => ?_) | refine zN2 (fun hlen => ?_) | refine zAl (fun _ => ?_) | refine zBx (fun _ => ?_))
      first | refine zR ?_ | refine zQ ?_
      rw [V.form_eq, ha, ← hy]; rfl
/-- what Check says -/
def V.check (v : V) : Int := if v.fitB 400 1 then (if v.every formP 1 then 0 else 3) else 2
set_option maxRecDepth 100000 in
set_option maxHeartbeats 2000000 in
theorem check_af (v : V) : AF Try.prog 17 [v.t] (· = .lit (.int .i64 v.check)) := by
  have hc := fun b => fits_ag v 400 1 b (by omega) (by omega)
  have hf := formed_af v 1
  obtain ⟨k, n, t, l⟩ := v
  refine af_enter tok Try.func17 Try.ntmps17 Try.results17 rfl (by kernel_rfl) rfl rfl fun F hX => ?_
  repeat (first | refine gG ?_ | refine zAl (fun _ => ?_) | refine zBf ?_)
  refine zCallG [0] (hc _) ?_
  rintro _ _ ⟨x, rfl, rfl, -⟩
  refine ⟨_, _, re_refl, rfl, rfl, ?_⟩
  cases h1 : (V.mk k n t l).fitB 400 1
  · repeat (first | refine gG ?_ | refine zAl (fun _ => ?_) | refine zBx (fun _ => ?_))
    first | refine zR ?_ | refine zQ ?_
    rw [V.check, h1]; rfl
  · repeat (first | refine gG ?_ | refine zAl (fun _ => ?_) | refine zBx (fun _ => ?_))
    refine zCall (hf) ?_
    rintro _ rfl
    cases h2 : (V.mk k n t l).every formP 1
    · repeat (first | refine gG ?_ | refine zAl (fun _ => ?_) | refine zBx (fun _ => ?_))
      first | refine zR ?_ | refine zQ ?_
      rw [V.check, h1, h2]; rfl
    · repeat (first | refine gG ?_ | refine zAl (fun _ => ?_) | refine zBx (fun _ => ?_))
      first | refine zR ?_ | refine zQ ?_
      rw [V.check, h1, h2]; rfl
end Go.Proofs.Ythgackidonocpaa
namespace Go.Proofs.Ythgackidonocpaa
open Go.RowKit
structure TS where
  l : List UInt8
  ok : Bool
end Go.Proofs.Ythgackidonocpaa
namespace Go.Proofs.Ythgackidonocpaa
open Go.RowKit
theorem tmod128 (u : Nat) : ((u : Int)).tmod 128 = ((u % 128 : Nat) : Int) := by
  rw [Int.tmod_eq_emod_of_nonneg (by omega)]; omega
theorem tdiv128 (u : Nat) : ((u : Int)).tdiv 128 = ((u / 128 : Nat) : Int) := by
  rw [Int.tdiv_eq_ediv_of_nonneg (by omega)]; omega
theorem one_u8 {n : Nat} (h : n < 256) : [T.lit (.int .u8 (n : Int))] = byts [UInt8.ofNat n] := by rw [u8_of h]; rfl
theorem one_kb (k : Int) : [T.lit (.int .u8 (IntKind.u8.wrap k))] = byts [kb k] := by rw [← kb_T]; rfl
set_option maxRecDepth 100000 in
set_option maxHeartbeats 2000000 in
theorem rnat_af (n : Nat) (hn : n < 2 ^ 64) : AF Try.prog 107 [.lit (.int .u64 (n : Int))] (· = .lit (.string (bs (uv n)))) := by
  have hul := uv_len64 hn
  refine af_enter tok Try.func107 Try.ntmps107 Try.results107 rfl (by kernel_rfl) rfl rfl fun F hX => ?_
  repeat (first | refine gG ?_)
  refine x_loop [0, 3, 4, 5, 6, 7, 8, 9, 10, 11, 12, 13, 14, 15] (fun y : Nat × List UInt8 => [(0, .c (.lit (.int .u64 (y.1 : Int)))), (3, .c (.lit (.string (bs y.2))))]) (fun _ => [])
    (fun y => y.1 < 2 ^ 64 ∧ y.2 ++ uv y.1 = uv n) (fun y => y.1) (n, []) ⟨hn, rfl⟩ ⟨rfl, rfl, trivial⟩ rfl ?_
  rintro ⟨u, l⟩ ⟨hu, hinv⟩
  dsimp only at hu hinv ⊢
  have hlen : l.length + (uv u).length ≤ 10 := by
    have := congrArg List.length hinv
    simp only [List.length_append] at this
    omega
  repeat (first | refine gG ?_)
  refine x_cond rfl (fun h => ?_) (fun h => ?_)
  · have hu' : ¬ u < 128 := by have : (127 : Int) < (u : Int) := of_decide_eq_true h
                               omega
    rw [uv_big hu'] at hinv hlen
    simp only [List.length_cons] at hlen
    repeat (first | refine gG ?_)
    refine lo_rem rfl rfl (by omega) (tmod128 u) ?_
    repeat (first | refine gG ?_)
    refine lo_add rfl rfl (r := ((u % 128 + 128 : Nat) : Int)) (by rw [wrap_u64]; omega) ?_
    repeat (first | refine gG ?_)
    refine lo_conv tok rfl rfl rfl rfl (r := ((u % 128 + 128 : Nat) : Int)) (by rw [wrap_u8]; omega) ?_
    repeat (first | refine gG ?_)
    refine zStr [UInt8.ofNat (u % 128 + 128)] (one_u8 (show u % 128 + 128 < 256 by omega)) rfl ?_
    repeat (first | refine gG ?_)
    refine zCatb l [UInt8.ofNat (u % 128 + 128)] (by simp only [List.length_cons, List.length_nil]; omega) ?_
    repeat (first | refine gG ?_)
    refine lo_quo rfl rfl (by omega) (r := ((u / 128 : Nat) : Int)) (by rw [tdiv128, wrap_u64]; omega) ?_
    repeat (first | refine gG ?_)
    exact ⟨(u / 128, l ++ [UInt8.ofNat (u % 128 + 128)]), ⟨by simp only; omega, by simpa using hinv⟩, by simp only; omega, x_wkd 0 ⟨rfl, rfl, trivial⟩ rfl (by repeat (first | exact ag_refl | refine ag_upd rfl ?_ | refine ag_at rfl rfl ?_))⟩
  · have hu' : u < 128 := by have : ¬ (127 : Int) < (u : Int) := of_decide_eq_false h
                             omega
    rw [uv_small hu'] at hinv hlen
    simp only [List.length_cons, List.length_nil] at hlen
    repeat (first | refine gG ?_)
    refine lo_conv tok rfl rfl rfl rfl (r := (u : Int)) (by rw [wrap_u8]; omega) ?_
    repeat (first | refine gG ?_)
    refine zStr [UInt8.ofNat u] (one_u8 (show u < 256 by omega)) rfl ?_
    repeat (first | refine gG ?_)
    refine zCatb l [UInt8.ofNat u] (by simp only [List.length_cons, List.length_nil]; omega) ?_
    repeat (first | refine gG ?_)
    first | refine zR ?_ | refine zQ ?_
    rw [hinv]; rfl
set_option maxRecDepth 100000 in
set_option maxHeartbeats 2000000 in
theorem rnum_af (n : Int) (hn : inI n) : AF Try.prog 108 [.lit (.int .i64 n)] (· = .lit (.string (bs (uv (zz n))))) := by
  have hc := rnat_af (zz n) (zz_lt hn)
  unfold inI at hn
  refine af_enter tok Try.func108 Try.ntmps108 Try.results108 rfl (by kernel_rfl) rfl rfl fun F hX => ?_
  cases d1 : decide (n < 0)
  · have h0 : ¬ n < 0 := of_decide_eq_false d1
    repeat (first | refine gG ?_)
    refine lo_conv tok rfl rfl rfl rfl (r := n) (by rw [wrap_u64]; omega) ?_
    repeat (first | refine gG ?_)
    refine lo_mul rfl rfl (r := ((zz n : Nat) : Int)) (by rw [wrap_u64, zz, if_pos (by omega)]; omega) ?_
    repeat (first | refine gG ?_)
    refine zCall (hc) ?_
    rintro _ rfl
    repeat (first | refine gG ?_)
    first | refine zR ?_ | refine zQ ?_
    rfl
  · have h0 : n < 0 := of_decide_eq_true d1
    repeat (first | refine gG ?_)
    refine lo_add rfl rfl (r := n + 1) (by rw [IntWalk.i64_in _ (by omega)]) ?_
    repeat (first | refine gG ?_)
    refine lo_neg rfl (r := 0 - (n + 1)) (by rw [IntWalk.i64_in _ (by omega)]) ?_
    repeat (first | refine gG ?_)
    refine lo_conv tok rfl rfl rfl rfl (r := 0 - (n + 1)) (by rw [wrap_u64]; omega) ?_
    repeat (first | refine gG ?_)
    refine lo_mul rfl rfl (r := 2 * (0 - (n + 1))) (by rw [wrap_u64]; omega) ?_
    repeat (first | refine gG ?_)
    refine lo_add rfl rfl (r := ((zz n : Nat) : Int)) (by rw [wrap_u64, zz, if_neg (by omega)]; omega) ?_
    repeat (first | refine gG ?_)
    refine zCall (hc) ?_
    rintro _ rfl
    repeat (first | refine gG ?_)
    first | refine zR ?_ | refine zQ ?_
    rfl
set_option maxRecDepth 100000 in
set_option maxHeartbeats 4000000 in
theorem valueText_af (v : V) : v.ok → v.bytes.length ≤ 1099511627776 → AF Try.prog 75 [v.t] (· = .lit (.string (bs v.bytes))) := by
  induction v using V.ind with
  | h k n t l ih =>
    intro hok hb
    simp only [V.ok] at hok
    have hok2 := (V.oks_iff l).1 hok.2
    simp only [V.bytes, V.bytesAll_eq, List.length_cons, List.length_append, sz_len] at hb
    have hln : l.length ≤ 1099511627776 := by
      have h1 : ∀ r : List V, r.length ≤ (r.flatMap V.bytes).length := by
        intro r
        induction r with
        | nil => simp
        | cons a r ih => obtain ⟨ka, na, ta, la⟩ := a; simp only [List.flatMap_cons, List.length_append, List.length_cons, V.bytes]; omega
      have := h1 l
      omega
    have h1 := rnum_af n hok.1
    have h2 := rnat_af t.size (by omega)
    have h3 := rnat_af l.length (by omega)
    have w1 : IntKind.u64.wrap (t.size : Int) = (t.size : Int) := by rw [wrap_u64]; omega
    have w2 : IntKind.u64.wrap (l.length : Int) = (l.length : Int) := by rw [wrap_u64]; omega
    refine af_enter tok Try.func75 Try.ntmps75 Try.results75 rfl (by kernel_rfl) rfl rfl fun F hX => ?_
    repeat (first | refine gG ?_ | refine zN1 (fun hlen => ?_) | refine zN2 (fun hlen => ?_) | refine zAl (fun _ => ?_) | refine zBf ?_)
    refine ac_draw [1, 1, 1, 1, 1, 1, 1, 1, 1, 1, 1, 1, 1, 1, 1, 1, 1, 1, 1, 1, 1, 1, 1, 1, 1] [0, 1, 2, 3, 4, 5, 6, 7, 8, 9, 10, 11, 12, 13, 14, 15, 16, 17, 18, 19, 20, 21, 22, 23, 24] (by kernel_rfl) (by kernel_rfl) ?_
    refine gW ?_
    apply w_q; (focus exact rfl); (focus exact rfl); focus (intro _; (refine lo_conv tok rfl rfl rfl rfl rfl ?_); exact det_refl)
    refine gW ?_
    apply w_q; (focus exact rfl); (focus exact rfl); focus (intro _; (refine zStr [kb k] (one_kb k) rfl ?_); exact det_refl)
    refine gW ?_
    apply w_q; (focus exact rfl); (focus exact rfl); focus (intro _; (refine lo_call h1 rfl (by repeat (first | exact rzs_nil | apply rzs_cons | exact rz_c | exact rz_nil rfl | apply rz_agg | exact rz_own rfl | apply rz_fn | exact rz_ptr rfl | apply rz_tup)) ?_; rintro _ rfl); exact det_refl)
    apply w_q; (focus exact rfl); (focus exact rfl); focus (intro _; (refine zCatb [kb k] (uv (zz n)) (by simp only [List.length_cons, List.length_nil]; omega) ?_); exact det_refl)
    refine gW ?_
    apply w_q; (focus exact rfl); (focus exact rfl); focus (intro _; (refine lo_conv tok rfl rfl rfl rfl w1 ?_); exact det_refl)
    apply w_q; (focus exact rfl); (focus exact rfl); focus (intro _; (refine lo_call h2 rfl (by repeat (first | exact rzs_nil | apply rzs_cons | exact rz_c | exact rz_nil rfl | apply rz_agg | exact rz_own rfl | apply rz_fn | exact rz_ptr rfl | apply rz_tup)) ?_; rintro _ rfl); exact det_refl)
    apply w_q; (focus exact rfl); (focus exact rfl); focus (intro _; (refine zCatb ([kb k] ++ uv (zz n)) (uv t.size) (by simp only [List.length_append, List.length_cons, List.length_nil]; omega) ?_); exact det_refl)
    refine gW ?_
    apply w_q; (focus exact rfl); (focus exact rfl); focus (intro _; (refine zCatb ([kb k] ++ uv (zz n) ++ uv t.size) t.data.toList (by simp only [List.length_append, List.length_cons, List.length_nil, sz_len]; omega) ?_); exact det_refl)
    refine gW ?_
    apply w_q; (focus exact rfl); (focus exact rfl); focus (intro _; (refine lo_conv tok rfl rfl rfl rfl w2 ?_); exact det_refl)
    apply w_q; (focus exact rfl); (focus exact rfl); focus (intro _; (refine lo_call h3 rfl (by repeat (first | exact rzs_nil | apply rzs_cons | exact rz_c | exact rz_nil rfl | apply rz_agg | exact rz_own rfl | apply rz_fn | exact rz_ptr rfl | apply rz_tup)) ?_; rintro _ rfl); exact det_refl)
    apply w_q; (focus exact rfl); (focus exact rfl); focus (intro _; (refine zCatb ([kb k] ++ uv (zz n) ++ uv t.size ++ t.data.toList) (uv l.length) (by simp only [List.length_append, List.length_cons, List.length_nil, sz_len]; omega) ?_); exact det_refl)
    refine gW ?_
    refine w_nil ?_
    repeat (first | refine gG ?_ | refine zN1 (fun hlen => ?_) | refine zN2 (fun hlen => ?_) | refine zAl (fun _ => ?_) | refine zBx (fun _ => ?_))
    refine x_loop [3, 5, 33, 34, 35, 36, 37, 38, 39, 40, 41] (fun y : Nat => [(33, .c (.lit (.int .i64 (y : Nat)))), (3, .c (.lit (.string (bs ([kb k] ++ uv (zz n) ++ uv t.size ++ t.data.toList ++ uv l.length ++ (l.take y).flatMap V.bytes)))))]) (fun _ => []) (fun y => y ≤ l.length) (fun y => l.length - y) 0 (Nat.zero_le _) ⟨rfl, by simp; rfl, trivial⟩ rfl ?_
    intro i hi
    repeat (first | refine gG ?_ | refine zN1 (fun hlen => ?_) | refine zN2 (fun hlen => ?_) | refine zAl (fun _ => ?_) | refine zBx (fun _ => ?_))
    refine x_cond rfl (fun h => ?_) (fun h => ?_)
    · have hi' : i < l.length := by simpa using h
      obtain ⟨a, hla⟩ := nth hi'
      have hsn := flat_snoc' V.bytes hla
      have hle : ((l.take (i + 1)).flatMap V.bytes).length ≤ (l.flatMap V.bytes).length := by
        have := congrArg (fun r => (List.flatMap V.bytes r).length) (List.take_append_drop (i + 1) l)
        simp only [List.flatMap_append, List.length_append] at this
        omega
      rw [hsn, List.length_append] at hle
      have hc := ih a (List.mem_of_getElem? hla) (hok2 a (List.mem_of_getElem? hla)) (by omega)
      repeat (first | refine gG ?_ | refine zN1 (fun hlen => ?_) | refine zN2 (fun hlen => ?_) | refine zAl (fun _ => ?_) | refine zBx (fun _ => ?_))
      refine zIx (i) (hi') ?_
      repeat (first | refine gG ?_ | refine zN1 (fun hlen => ?_) | refine zN2 (fun hlen => ?_) | refine zAl (fun _ => ?_) | refine zBx (fun _ => ?_))
      refine zEl (V.at hla) (V.ts_len a) ?_
      obtain ⟨ka, na, ta, la⟩ := a
      repeat (first | refine gG ?_ | refine zN1 (fun hlen => ?_) | refine zN2 (fun hlen => ?_) | refine zAl (fun _ => ?_) | refine zBx (fun _ => ?_))
      refine zCall (hc) ?_
      rintro _ rfl
      repeat (first | refine gG ?_ | refine zN1 (fun hlen => ?_) | refine zN2 (fun hlen => ?_) | refine zAl (fun _ => ?_) | refine zBx (fun _ => ?_))
      refine zCatb ([kb k] ++ uv (zz n) ++ uv t.size ++ t.data.toList ++ uv l.length ++ (l.take i).flatMap V.bytes) (V.mk ka na ta la).bytes (by simp only [List.length_append, List.length_cons, List.length_nil, sz_len]; omega) ?_
      repeat (first | refine gG ?_ | refine zN1 (fun hlen => ?_) | refine zN2 (fun hlen => ?_) | refine zAl (fun _ => ?_) | refine zBx (fun _ => ?_))
      exact ⟨i + 1, hi', by omega, x_wkd 0 ⟨rfl, by simp only [hsn, List.append_assoc]; rfl, trivial⟩ rfl (by repeat (first | exact ag_refl | refine ag_upd rfl ?_ | refine ag_at rfl rfl ?_))⟩
    · have hi' : i = l.length := by have : ¬ i < l.length := by simpa using h
                                    omega
      subst hi'
      rw [List.take_length]
      repeat (first | refine gG ?_ | refine zN1 (fun hlen => ?_) | refine zN2 (fun hlen => ?_) | refine zAl (fun _ => ?_) | refine zBx (fun _ => ?_))
      first | refine zR ?_ | refine zQ ?_
      simp only [V.bytes, V.bytesAll_eq, List.append_assoc, List.cons_append, List.nil_append]; rfl
end Go.Proofs.Ythgackidonocpaa
namespace Go.Proofs.Ythgackidonocpaa
open Go.RowKit
inductive Pl where
  | fin (r : List Nat)
  | fork (p : List Nat) (i : Nat) (a : Pl) (j : Nat) (b : Pl)
def Pl.n : Pl → Nat
  | .fin r => r.length
  | .fork p _ a _ _ => a.n + 1 + p.length
end Go.Proofs.Ythgackidonocpaa
namespace Go.Proofs.Ythgackidonocpaa
open Go.RowKit
abbrev Vd := V × Nat
def atTs (x : Vd) : List T := x.1.ts ++ [.lit (.int .i64 (x.2 : Int))]
theorem atTs_len (x : Vd) : (atTs x).length = 5 := by simp [atTs, V.ts_len]
def kids (x : Vd) : List Vd := x.1.args.map fun a => (a, x.2 + 1)
def vsz (l : List Vd) : Nat := V.sizes (l.map (·.1))
theorem vsz_app (l r : List Vd) : vsz (l ++ r) = vsz l + vsz r := by simp [vsz, V.sizes_app]
theorem vsz_kids (x : Vd) : vsz (kids x) + 1 = x.1.size := by
  obtain ⟨⟨k, n, t, l⟩, d⟩ := x
  simp [vsz, kids, V.args, V.size, Function.comp_def]
theorem vsz_len (l : List Vd) : l.length ≤ vsz l := by
  have := V.len_sizes (l.map (·.1))
  simpa [vsz] using this
/-- the first i of the list are done, the rest stand for what is below them too -/
structure Lev (v : V) (all : List Vd) (i : Nat) : Prop where
  le : i ≤ all.length
  size : i + vsz (all.drop i) = v.size
  deep : ∀ x ∈ all, x.2 ≤ all.length
  sub : ∀ x ∈ all, x.1.size ≤ v.size
  every : ∀ p : V → Nat → Bool, ((all.take i).all (fun x => p x.1 x.2) && (all.drop i).all (fun x => x.1.every p x.2)) = v.every p 1
theorem Lev.zero (v : V) : Lev v [(v, 1)] 0 := ⟨by simp, by simp [vsz, V.sizes], by simp, by simp, fun p => by simp⟩
theorem Lev.step {v : V} {all : List Vd} {i : Nat} {x : Vd} (h : Lev v all i) (hx : all[i]? = some x) : Lev v (all ++ kids x) (i + 1) := by
  obtain ⟨hi, rfl⟩ := List.getElem?_eq_some_iff.1 hx
  have hd := List.drop_eq_getElem_cons hi
  have hdrop : (all ++ kids all[i]).drop (i + 1) = all.drop (i + 1) ++ kids all[i] := by rw [List.drop_append_of_le_length (by omega)]
  have htake : (all ++ kids all[i]).take (i + 1) = all.take i ++ [all[i]] := by rw [List.take_append_of_le_length (by omega), List.take_succ_eq_append_getElem hi]
  refine ⟨by simp; omega, ?_, ?_, ?_, fun p => ?_⟩
  · have h1 := h.size
    have h2 := vsz_kids all[i]
    rw [hd] at h1
    rw [hdrop, vsz_app]
    have h3 : vsz (all[i] :: all.drop (i + 1)) = all[i].1.size + vsz (all.drop (i + 1)) := by simp only [vsz, List.map_cons, V.sizes]
    omega
  · intro y hy
    rcases List.mem_append.1 hy with hy | hy
    · have := h.deep y hy; simp; omega
    · simp only [kids, List.mem_map] at hy
      obtain ⟨a, ha, rfl⟩ := hy
      have h1 := h.deep all[i] (List.getElem_mem hi)
      have h2 : 0 < all[i].1.args.length := List.length_pos_of_mem ha
      simp [kids]; omega
  · intro y hy
    rcases List.mem_append.1 hy with hy | hy
    · exact h.sub y hy
    · simp only [kids, List.mem_map] at hy
      obtain ⟨a, ha, rfl⟩ := hy
      have h1 := h.sub all[i] (List.getElem_mem hi)
      have h2 : a.size ≤ all[i].1.size := by
        generalize all[i] = z at ha h1 ⊢
        obtain ⟨⟨k, n, t, l⟩, d⟩ := z
        have := V.size_mem ha
        simp only [V.args] at this
        simp only [V.size]
        omega
      exact Nat.le_trans h2 h1
  · rw [← h.every p, hdrop, htake, hd]
    have h4 : all[i].1.every p all[i].2 = (p all[i].1 all[i].2 && (kids all[i]).all fun x => x.1.every p x.2) := by
      generalize all[i] = z
      obtain ⟨⟨k, n, t, l⟩, d⟩ := z
      simp only [V.every, V.everys_eq, kids, V.args, List.all_map]
      rfl
    simp only [List.all_append, List.all_cons, List.all_nil, Bool.and_true, h4]
    cases (all.take i).all fun x => p x.1 x.2 <;> cases p all[i].1 all[i].2 <;> cases (all.drop (i + 1)).all fun x => x.1.every p x.2 <;> cases (kids all[i]).all fun x => x.1.every p x.2 <;> rfl
theorem Lev.len {v : V} {all : List Vd} {i : Nat} (h : Lev v all i) : all.length ≤ v.size := by
  have h1 := h.size
  have h2 := vsz_len (all.drop i)
  rw [List.length_drop] at h2
  have := h.le
  omega
theorem Lev.done {v : V} {all : List Vd} (h : Lev v all all.length) : all.length = v.size ∧ ∀ p : V → Nat → Bool, (all.all fun x => p x.1 x.2) = v.every p 1 := by
  refine ⟨?_, fun p => ?_⟩
  · have := h.size
    rw [List.drop_length] at this
    simpa [vsz, V.sizes] using this
  · have := h.every p
    rw [List.drop_length, List.take_length] at this
    simpa using this
theorem byt_at {l : List UInt8} {k : Nat} {a : UInt8} (h : l[k]? = some a) : (byts l)[k * 1]? = some (bytT a) := by simp [byts, h]
theorem u8_eq (a b : UInt8) : decide ((a.toNat : Int) = (b.toNat : Int)) = decide (a = b) := by
  by_cases h : a = b
  · simp [h]
  · rw [decide_eq_false h, decide_eq_false]
    intro e
    exact h (UInt8.toNat_inj.1 (by omega))
set_option maxRecDepth 100000 in
set_option maxHeartbeats 1000000 in
theorem indexB_af (c : UInt8) (l : List UInt8) : AF Try.prog 159 [bytRow l, bytT c] (· = .lit (.int .i64 (idxI (fun b => decide (c = b)) l))) := by
  refine af_enter tok Try.func159 Try.ntmps159 Try.results159 rfl (by kernel_rfl) rfl rfl fun F hX => ?_
  repeat (first | refine gG ?_ | refine zN1 (fun hlen => ?_) | refine zN2 (fun hlen => ?_))
  refine x_loop [4, 5, 8, 9, 10, 11, 12, 13, 14, 15, 16, 17, 18] (fun k : Nat => [(8, .c (.lit (.int .i64 k)))]) (fun _ => []) (fun k => k ≤ l.length ∧ idxAt (fun b => decide (c = b)) l k) (fun k => l.length - k) 0 ⟨Nat.zero_le _, idxAt_zero _ l⟩ ⟨rfl, trivial⟩ rfl fun k hk => ?_
  repeat (first | refine gG ?_ | refine zN1 (fun hlen => ?_) | refine zN2 (fun hlen => ?_))
  refine x_cond rfl (fun h => ?_) (fun h => ?_)
  · have hk' : k < l.length := by simpa using h
    obtain ⟨a, ha⟩ := nth hk'
    repeat (first | refine gG ?_ | refine zN1 (fun hlen => ?_) | refine zN2 (fun hlen => ?_))
    refine zIx k hk' ?_
    repeat (first | refine gG ?_ | refine zN1 (fun hlen => ?_) | refine zN2 (fun hlen => ?_))
    refine zEl1 (byt_at ha) ?_
    cases hq : decide (c = a)
    · have hq' : decide ((c.toNat : Int) = (a.toNat : Int)) = false := by rw [u8_eq]; exact hq
      repeat (first | refine gG ?_ | refine zN1 (fun hlen => ?_) | refine zN2 (fun hlen => ?_))
      exact ⟨k + 1, ⟨hk', idxAt_no hk.2 ha hq⟩, by omega, x_wkd 0 ⟨rfl, trivial⟩ rfl (by repeat (first | exact ag_refl | refine ag_upd rfl ?_ | refine ag_at rfl rfl ?_))⟩
    · have hq' : decide ((c.toNat : Int) = (a.toNat : Int)) = true := by rw [u8_eq]; exact hq
      repeat (first | refine gG ?_ | refine zN1 (fun hlen => ?_) | refine zN2 (fun hlen => ?_))
      first | refine zR ?_ | refine zQ ?_
      rw [idxAt_yes hk.2 ha hq]; rfl
  · have hk' : k = l.length := by have : ¬ k < l.length := by simpa using h
                                  omega
    subst hk'
    repeat (first | refine gG ?_ | refine zN1 (fun hlen => ?_) | refine zN2 (fun hlen => ?_))
    first | refine zR ?_ | refine zQ ?_
    rw [idxAt_end hk.2]; rfl
set_option maxRecDepth 100000 in
set_option maxHeartbeats 1000000 in
theorem containsB_af (c : UInt8) (l : List UInt8) : AF Try.prog 78 [bytRow l, bytT c] (· = .lit (.bool (l.any fun b => decide (c = b)))) := by
  have hc := indexB_af c l
  refine af_enter tok Try.func78 Try.ntmps78 Try.results78 rfl (by kernel_rfl) rfl rfl fun F hX => ?_
  repeat (first | refine gG ?_)
  refine zCall (hc) ?_
  rintro _ rfl
  repeat (first | refine gG ?_)
  first | refine zR ?_ | refine zQ ?_
  rw [← idxI_any]; rfl
/-- a node whose parts are asq the list of its kind says -/
def okB (n : Int) (t : ByteArray) (m : Nat) (has : ByteArray) (most : Int) : Bool :=
  !((!decide (n = 0)) && !(has.data.toList.any fun b => decide ((110 : UInt8) = b))) && !((!decide (t = ⟨#[]⟩)) && !(has.data.toList.any fun b => decide ((116 : UInt8) = b))) && !decide (most < (m : Int))
theorem len0 (l : List V) : (!decide ((0 : Int) < (l.length : Int))) = decide ((l.length : Int) = 0) := by
  by_cases h : (l.length : Int) = 0
  · rw [decide_eq_true h, h]; rfl
  · rw [decide_eq_false h, decide_eq_true (by omega)]; rfl
theorem len1 (l : List V) : (!decide ((1 : Int) < (l.length : Int))) = decide ((l.length : Int) ≤ 1) := by
  by_cases h : (l.length : Int) ≤ 1
  · rw [decide_eq_true h, decide_eq_false (by omega)]; rfl
  · rw [decide_eq_false h, decide_eq_true (by omega)]; rfl
theorem len400 (l : List V) (h : l.length ≤ 400) : (!decide ((400 : Int) < (l.length : Int))) = true := by
  rw [decide_eq_false (by omega)]; rfl
theorem okB_eq (n : Int) (t : ByteArray) (m : Nat) (has : ByteArray) (most : Int) (c1 c2 : Bool) (h1 : (has.data.toList.any fun b => decide ((110 : UInt8) = b)) = c1) (h2 : (has.data.toList.any fun b => decide ((116 : UInt8) = b)) = c2) : okB n t m has most = ((decide (n = 0) || c1) && (decide (t = ⟨#[]⟩) || c2) && !decide (most < (m : Int))) := by
  unfold okB
  rw [h1, h2]
  cases decide (n = 0) <;> cases decide (t = ⟨#[]⟩) <;> cases c1 <;> cases c2 <;> rfl
section
variable (n : Int) (t : ByteArray) (l : List V)
theorem ok1 : okB n t l.length ⟨#[]⟩ 0 = formN (.mk 1 n t l) := by rw [okB_eq _ _ _ _ _ false false (by decide) (by decide), len0]; simp [formN]
theorem ok2 : okB n t l.length ⟨#[110]⟩ 0 = formN (.mk 2 n t l) := by rw [okB_eq _ _ _ _ _ true false (by decide) (by decide), len0]; simp [formN]
theorem ok6 : okB n t l.length ⟨#[110]⟩ 0 = formN (.mk 6 n t l) := by rw [okB_eq _ _ _ _ _ true false (by decide) (by decide), len0]; simp [formN]
theorem ok3 (e : decide (n = 1) = false) : okB n t l.length ⟨#[]⟩ 0 = formN (.mk 3 n t l) := by rw [okB_eq _ _ _ _ _ false false (by decide) (by decide), len0]; have e' := of_decide_eq_false e; simp [formN, e']
theorem ok3' (e : decide (n = 1) = true) : okB n t l.length ⟨#[110]⟩ 0 = formN (.mk 3 n t l) := by rw [okB_eq _ _ _ _ _ true false (by decide) (by decide), len0]; obtain rfl := of_decide_eq_true e; simp [formN]
theorem ok4 : okB n t l.length ⟨#[116]⟩ 0 = formN (.mk 4 n t l) := by rw [okB_eq _ _ _ _ _ false true (by decide) (by decide), len0]; simp [formN]
theorem ok5 (hl : l.length ≤ 400) (e : decide (t = ⟨#[]⟩) = false) : okB n t l.length ⟨#[116]⟩ 400 = formN (.mk 5 n t l) := by rw [okB_eq _ _ _ _ _ false true (by decide) (by decide), len400 _ hl]; have e' := of_decide_eq_false e; simp [formN, e']
theorem ok7 (hl : l.length ≤ 400) : okB n t l.length ⟨#[110, 116]⟩ 400 = formN (.mk 7 n t l) := by rw [okB_eq _ _ _ _ _ true true (by decide) (by decide), len400 _ hl]; simp [formN]
theorem ok8 : okB n t l.length ⟨#[]⟩ 1 = formN (.mk 8 n t l) := by rw [okB_eq _ _ _ _ _ false false (by decide) (by decide), len1]; simp [formN]
end
end Go.Proofs.Ythgackidonocpaa
namespace Go.Proofs.Ythgackidonocpaa
open Go.RowKit
def big400 (m : Nat) (x : Vd) : Bool := !decide ((400 : Int) < (m : Int)) && bigN x.1 x.2
theorem map_snoc2 {α β : Type} (f : α → β) {l : List α} {k : Nat} {a : α} (h : l[k]? = some a) : (l.take (k + 1)).map f = (l.take k).map f ++ [f a] := by
  obtain ⟨h1, rfl⟩ := List.getElem?_eq_some_iff.1 h
  rw [List.take_succ_eq_append_getElem h1, List.map_append]
  simp
theorem big400_eq (m : Nat) (k n : Int) (t : ByteArray) (l : List V) (d : Nat) : big400 m (.mk k n t l, d) = (!decide ((400 : Int) < (m : Int)) && (!decide ((40 : Int) < (d : Int)) && !decide ((4000 : Int) < (t.size : Int)))) := rfl
theorem big_all {v : V} {all : List Vd} (h : Lev v all all.length) : v.fitB 400 1 = all.all (big400 all.length) := by
  obtain ⟨h1, h2⟩ := h.done
  have h3 : 0 < all.length := by rw [h1]; obtain ⟨k, n, t, l⟩ := v; simp [V.size]
  unfold V.fitB
  rw [← h2 bigN, ← h1]
  by_cases h4 : all.length ≤ 400
  · rw [decide_eq_true h4, Bool.true_and]
    unfold big400
    rw [decide_eq_false (show ¬ (400 : Int) < (all.length : Int) by omega)]
    simp
  · rw [decide_eq_false h4, Bool.false_and]
    symm
    rw [List.all_eq_false]
    obtain ⟨x, hx⟩ := List.exists_mem_of_length_pos h3
    refine ⟨x, hx, ?_⟩
    unfold big400
    rw [decide_eq_true (show (400 : Int) < (all.length : Int) by omega)]
    simp
set_option maxRecDepth 100000 in
set_option maxHeartbeats 4000000 in
theorem valueFault_af (v : V) (hv : v.size ≤ 1048576) : AF Try.prog 18 [v.t] (· = .lit (.int .i64 v.check)) := by
  obtain ⟨k0, n0, t0, l0⟩ := v
  refine af_enter tok Try.func18 Try.ntmps18 Try.results18 rfl (by kernel_rfl) rfl rfl fun F hX => ?_
  repeat (first | refine gX ?_ | refine zN1 (fun hlen => ?_) | refine zN2 (fun hlen => ?_) | refine zAl (fun _ => ?_) | refine zBf ?_ | refine zAp (fun _ => ?_))
  refine zBo (fun u0 => ?_)
  repeat (first | refine gG ?_ | refine zN1 (fun hlen => ?_) | refine zN2 (fun hlen => ?_) | refine zAl (fun _ => ?_) | refine zBx (fun _ => ?_) | refine zAp (fun _ => ?_))
  refine x_loop [3, 4, 6, 18, 19, 20, 21, 22, 23, 24, 25, 26, 27, 28, 29, 30, 31, 32, 33, 34, 35, 36, 37, 38, 39, 40, 41, 42, 43, 44, 45, 46] (fun y : Nat × List Vd × Value => [(4, .c (.lit (.int .i64 (y.1 : Nat)))), (3, .own 0 y.2.2)]) (fun y => [.row y.2.2 141 5 y.2.1.length (y.2.1.flatMap atTs)])
    (fun y => Lev (.mk k0 n0 t0 l0) y.2.1 y.1) (fun y => (V.mk k0 n0 t0 l0).size - y.1) (0, [(.mk k0 n0 t0 l0, 1)], u0) (Lev.zero _) ⟨rfl, rfl, trivial⟩ rfl ?_
  rintro ⟨i, all, u⟩ hlev
  dsimp only at hlev ⊢
  have hll := hlev.len
  repeat (first | refine gG ?_ | refine zN1 (fun hlen => ?_) | refine zN2 (fun hlen => ?_) | refine zAl (fun _ => ?_) | refine zBx (fun _ => ?_) | refine zAp (fun _ => ?_))
  refine x_cond rfl (fun h => ?_) (fun h => ?_)
  · have hi' : i < all.length := by simpa using h
    obtain ⟨x, hx⟩ := nth hi'
    have hst := hlev.step hx
    have hsl := hst.len
    have hdp := hlev.deep x (List.mem_of_getElem? hx)
    obtain ⟨⟨ka, na, ta, la⟩, d⟩ := x
    simp only [List.length_append, kids, V.args, List.length_map] at hsl
    dsimp only at hdp
    have hrow : (all.flatMap atTs)[i * 5 + 0 + 3]? = some (.row la.length 4 (V.all la)) := (flat_get atTs 5 atTs_len hx (j := 3) (by omega)).trans rfl
    have hdv : (all.flatMap atTs)[i * 5 + 4]? = some (.lit (.int .i64 (d : Int))) := (flat_get atTs 5 atTs_len hx (j := 4) (by omega)).trans rfl
    have hfl := flat_len atTs 5 atTs_len all
    repeat (first | refine gG ?_ | refine zN1 (fun hlen => ?_) | refine zN2 (fun hlen => ?_) | refine zAl (fun _ => ?_) | refine zBx (fun _ => ?_) | refine zAp (fun _ => ?_))
    refine zIxo i hi' ?_
    repeat (first | refine gG ?_ | refine zN1 (fun hlen => ?_) | refine zN2 (fun hlen => ?_) | refine zAl (fun _ => ?_) | refine zBx (fun _ => ?_) | refine zAp (fun _ => ?_))
    refine zElo1 hrow ?_
    repeat (first | refine gG ?_ | refine zN1 (fun hlen => ?_) | refine zN2 (fun hlen => ?_) | refine zAl (fun _ => ?_) | refine zBx (fun _ => ?_) | refine zAp (fun _ => ?_))
    refine x_loop [3, 6, 31, 32, 33, 34, 35, 36, 37, 38, 39, 40, 41, 42, 43, 44, 45, 46] (fun y : Nat × Value => [(31, .c (.lit (.int .i64 (y.1 : Nat)))), (3, .own 0 y.2)]) (fun y => [.row y.2 141 5 (all.length + y.1) (all.flatMap atTs ++ ((la.take y.1).map fun a => (a, d + 1)).flatMap atTs)])
      (fun y => y.1 ≤ la.length) (fun y => la.length - y.1) (0, u) (Nat.zero_le _) ⟨rfl, rfl, trivial⟩ (by simp) ?_
    rintro ⟨j, w⟩ hj
    dsimp only at hj ⊢
    repeat (first | refine gG ?_ | refine zN1 (fun hlen => ?_) | refine zN2 (fun hlen => ?_) | refine zAl (fun _ => ?_) | refine zBx (fun _ => ?_) | refine zAp (fun _ => ?_))
    refine x_cond rfl (fun h => ?_) (fun h => ?_)
    · have hj' : j < la.length := by simpa using h
      obtain ⟨a, ha⟩ := nth hj'
      have hsn : ((la.take (j + 1)).map fun a => (a, d + 1)).flatMap atTs = ((la.take j).map fun a => (a, d + 1)).flatMap atTs ++ atTs (a, d + 1) := by
        rw [map_snoc2 _ ha, List.flatMap_append]; simp
      have hdv' : (all.flatMap atTs ++ ((la.take j).map fun a => (a, d + 1)).flatMap atTs)[i * 5 + 4]? = some (.lit (.int .i64 (d : Int))) := by rw [List.getElem?_append_left (by omega)]; exact hdv
      have hin : i < all.length + j := by omega
      repeat (first | refine gG ?_ | refine zN1 (fun hlen => ?_) | refine zN2 (fun hlen => ?_) | refine zAl (fun _ => ?_) | refine zBx (fun _ => ?_) | refine zAp (fun _ => ?_))
      refine zIx (j) (hj') ?_
      repeat (first | refine gG ?_ | refine zN1 (fun hlen => ?_) | refine zN2 (fun hlen => ?_) | refine zAl (fun _ => ?_) | refine zBx (fun _ => ?_) | refine zAp (fun _ => ?_))
      refine zEl (V.at ha) (V.ts_len a) ?_
      obtain ⟨kb', nb', tb', lb'⟩ := a
      repeat (first | refine gG ?_ | refine zN1 (fun hlen => ?_) | refine zN2 (fun hlen => ?_) | refine zAl (fun _ => ?_) | refine zBx (fun _ => ?_) | refine zAp (fun _ => ?_))
      refine ac_draw [1, 1, 1, 1, 1, 1, 1, 1, 1, 1, 2, 1] [0, 1, 2, 3, 4, 5, 6, 7, 8, 9, 10, 11] (by kernel_rfl) (by kernel_rfl) ?_
      refine gW ?_
      apply w_q; (focus exact rfl); (focus exact rfl); focus (intro _; (refine zIxo i hin ?_); exact det_refl)
      refine gW ?_
      apply w_q; (focus exact rfl); (focus exact rfl); focus (intro _; (refine zElo1 hdv' ?_); exact det_refl)
      refine gW ?_
      apply w_l; (focus exact rfl); (focus exact rfl); (first | (refine zkL ?_; first | refine zL1 ?_ | refine zL2 ?_ | refine zL3 ?_ | refine zLp ?_) | refine zM ?_ | (refine zkF ?_; first | refine zF1 ?_ | refine zF2 ?_ | refine zF3 ?_) | refine zA ?_ | (refine zkB ?_; first | refine zC5 ?_ | refine zC6 ?_ | refine zC1 ?_ | refine zC2 ?_ | refine zC3 ?_ | refine zC4 ?_ | refine zS5 ?_ | refine zS6 ?_ | refine zS1 ?_ | refine zS2 ?_ | refine zS3 ?_ | refine zS4 ?_ | refine zInc ?_ | refine zQ1 ?_ | refine zQ2 ?_ | refine zQ3 ?_ | refine zQ4 ?_ | refine zQ5 ?_ | refine zQ6 ?_) | (refine zkI ?_; first | refine zN1 (fun hlen => ?_) | refine zN2 (fun hlen => ?_) | refine zN3 ?_ | refine zN4 ?_ | refine zAp (fun _ => ?_)) | refine zS ?_ | refine zAl (fun _ => ?_) | refine zBx (fun _ => ?_) | refine zPt ?_ | refine zPf ?_ | refine zE ?_ | refine zEA ?_ | refine zNot ?_ | refine zBd ?_ | refine zBs ?_ | refine zFn ?_ | refine zK1 ?_ | refine zK2 ?_)
      refine gW ?_
      refine w_nil ?_
      repeat (first | refine gG ?_ | refine zN1 (fun hlen => ?_) | refine zN2 (fun hlen => ?_) | refine zAl (fun _ => ?_) | refine zBx (fun _ => ?_) | refine zAp (fun _ => ?_))
      exact ⟨(j + 1, _), hj', by simp only; omega, x_wkd 1 ⟨rfl, rfl, trivial⟩ (by simp only [hsn, ← List.append_assoc, ← Nat.add_assoc]; rfl) (by repeat (first | exact ag_refl | refine ag_upd rfl ?_ | refine ag_at rfl rfl ?_))⟩
    · have hj' : j = la.length := by have : ¬ j < la.length := by simpa using h
                                     omega
      subst hj'
      repeat (first | refine gG ?_ | refine zN1 (fun hlen => ?_) | refine zN2 (fun hlen => ?_) | refine zAl (fun _ => ?_) | refine zBx (fun _ => ?_) | refine zAp (fun _ => ?_))
      refine ⟨(i + 1, all ++ kids (.mk ka na ta la, d), w), hst, ?_, x_wkd 1 ⟨rfl, rfl, trivial⟩ (by simp only [kids, V.args, List.take_length, List.length_append, List.length_map, List.flatMap_append]; rfl) (by repeat (first | exact ag_refl | refine ag_upd rfl ?_ | refine ag_at rfl rfl ?_))⟩
      have h1 := hlev.size
      have h2 := vsz_len (all.drop i)
      rw [List.length_drop] at h2
      simp only
      omega
  · have hi' : i = all.length := by have := hlev.le
                                    have : ¬ i < all.length := by simpa using h
                                    omega
    subst hi'
    have hbig := big_all hlev
    have hdone := hlev.done
    repeat (first | refine gG ?_ | refine zN1 (fun hlen => ?_) | refine zN2 (fun hlen => ?_) | refine zAl (fun _ => ?_) | refine zBx (fun _ => ?_) | refine zAp (fun _ => ?_))
    refine x_loop [2, 8, 49, 50, 51, 52, 53, 54, 55, 56, 57, 58, 59, 60, 61, 62, 63, 64, 65, 66, 67, 68] (fun y : Nat => [(49, .c (.lit (.int .i64 (y : Nat))))]) (fun _ => [.row u 141 5 all.length (all.flatMap atTs)])
      (fun y => y ≤ all.length ∧ (all.take y).all (big400 all.length) = true) (fun y => all.length - y) 0 ⟨Nat.zero_le _, by simp⟩ ⟨rfl, trivial⟩ rfl ?_
    rintro j ⟨hj, hja⟩
    repeat (first | refine gG ?_ | refine zN1 (fun hlen => ?_) | refine zN2 (fun hlen => ?_) | refine zAl (fun _ => ?_) | refine zBx (fun _ => ?_) | refine zAp (fun _ => ?_))
    refine x_cond rfl (fun h => ?_) (fun h => ?_)
    · have hj' : j < all.length := by simpa using h
      obtain ⟨x, hx⟩ := nth hj'
      have hsa := all_snoc (big400 all.length) hx
      obtain ⟨⟨ka, na, ta, la⟩, d⟩ := x
      have hno : big400 all.length (.mk ka na ta la, d) = false → (V.mk k0 n0 t0 l0).check = 2 := fun hb => by
        rw [V.check, hbig, all_no _ hx hb]; rfl
      repeat (first | refine gG ?_ | refine zN1 (fun hlen => ?_) | refine zN2 (fun hlen => ?_) | refine zAl (fun _ => ?_) | refine zBx (fun _ => ?_) | refine zAp (fun _ => ?_))
      refine zIxo j hj' ?_
      repeat (first | refine gG ?_ | refine zN1 (fun hlen => ?_) | refine zN2 (fun hlen => ?_) | refine zAl (fun _ => ?_) | refine zBx (fun _ => ?_) | refine zAp (fun _ => ?_))
      refine zElo (flat_at atTs 5 atTs_len hx) (atTs_len _) ?_
      cases d1 : decide ((400 : Int) < (all.length : Int))
      · cases d2 : decide ((40 : Int) < (d : Int))
        · cases d3 : decide ((4000 : Int) < (ta.size : Int))
          · repeat (first | refine gG ?_ | refine zN1 (fun hlen => ?_) | refine zN2 (fun hlen => ?_) | refine zAl (fun _ => ?_) | refine zBx (fun _ => ?_) | refine zAp (fun _ => ?_))
            exact ⟨j + 1, ⟨hj', by rw [hsa, hja, big400_eq, d1, d2, d3]; rfl⟩, by omega, x_wkd 1 ⟨rfl, trivial⟩ rfl (by repeat (first | exact ag_refl | refine ag_upd rfl ?_ | refine ag_at rfl rfl ?_))⟩
          · repeat (first | refine gG ?_ | refine zN1 (fun hlen => ?_) | refine zN2 (fun hlen => ?_) | refine zAl (fun _ => ?_) | refine zBx (fun _ => ?_) | refine zAp (fun _ => ?_))
            first | refine zR ?_ | refine zQ ?_
            rw [hno (by rw [big400_eq, d1, d2, d3]; rfl)]; rfl
        · repeat (first | refine gG ?_ | refine zN1 (fun hlen => ?_) | refine zN2 (fun hlen => ?_) | refine zAl (fun _ => ?_) | refine zBx (fun _ => ?_) | refine zAp (fun _ => ?_))
          first | refine zR ?_ | refine zQ ?_
          rw [hno (by rw [big400_eq, d1, d2]; rfl)]; rfl
      · repeat (first | refine gG ?_ | refine zN1 (fun hlen => ?_) | refine zN2 (fun hlen => ?_) | refine zAl (fun _ => ?_) | refine zBx (fun _ => ?_) | refine zAp (fun _ => ?_))
        first | refine zR ?_ | refine zQ ?_
        rw [hno (by rw [big400_eq, d1]; rfl)]; rfl
    · have hj' : j = all.length := by have : ¬ j < all.length := by simpa using h
                                      omega
      subst hj'
      rw [List.take_length] at hja
      rw [hja] at hbig
      have h400 : all.length ≤ 400 := by
        have := hbig
        simp only [V.fitB, Bool.and_eq_true, decide_eq_true_eq] at this
        omega
      repeat (first | refine gG ?_ | refine zN1 (fun hlen => ?_) | refine zN2 (fun hlen => ?_) | refine zAl (fun _ => ?_) | refine zBx (fun _ => ?_) | refine zAp (fun _ => ?_))
      refine x_loop [2, 10, 11, 12, 13, 14, 71, 72, 73, 74, 75, 76, 77, 78, 79, 80, 81, 82, 83, 84, 85, 86, 87, 88, 89, 90, 91, 92, 93, 94, 95, 96, 97, 98, 99, 100, 101, 102, 103, 104, 105, 106, 107, 108, 109, 110, 111, 112, 113, 114, 115, 116, 117, 118, 119, 120, 121, 122, 123, 124, 125, 126, 127, 128, 129, 130, 131, 132, 133] (fun y : Nat => [(71, .c (.lit (.int .i64 (y : Nat))))]) (fun _ => [.row u 141 5 all.length (all.flatMap atTs)])
        (fun y => y ≤ all.length ∧ (all.take y).all (fun x => formP x.1 x.2) = true) (fun y => all.length - y) 0 ⟨Nat.zero_le _, by simp⟩ ⟨rfl, trivial⟩ rfl ?_
      rintro j ⟨hj, hjf⟩
      repeat (first | refine gG ?_ | refine zN1 (fun hlen => ?_) | refine zN2 (fun hlen => ?_) | refine zAl (fun _ => ?_) | refine zBx (fun _ => ?_) | refine zAp (fun _ => ?_))
      refine x_cond rfl (fun h => ?_) (fun h => ?_)
      · have hj' : j < all.length := by simpa using h
        obtain ⟨x, hx⟩ := nth hj'
        have hsa := all_snoc (fun x => formP x.1 x.2) hx
        have hsub := hlev.sub x (List.mem_of_getElem? hx)
        obtain ⟨⟨ka, na, ta, la⟩, d⟩ := x
        have hla : la.length ≤ 400 := by
          have h1 := V.len_sizes la
          simp only [V.size] at hsub hdone
          omega
        have hno : formN (.mk ka na ta la) = false → (V.mk k0 n0 t0 l0).check = 3 := fun hb => by
          rw [V.check, hbig, ← hdone.2 formP, all_no _ hx hb]; rfl
        repeat (first | refine gG ?_ | refine zN1 (fun hlen => ?_) | refine zN2 (fun hlen => ?_) | refine zAl (fun _ => ?_) | refine zBx (fun _ => ?_) | refine zAp (fun _ => ?_))
        refine zIxo j hj' ?_
        repeat (first | refine gG ?_ | refine zN1 (fun hlen => ?_) | refine zN2 (fun hlen => ?_) | refine zAl (fun _ => ?_) | refine zBx (fun _ => ?_) | refine zAp (fun _ => ?_))
        refine zElo (flat_at atTs 5 atTs_len hx) (atTs_len _) ?_
        repeat (first | refine gO ?_ | refine zN1 (fun hlen => ?_) | refine zN2 (fun hlen => ?_) | refine zAl (fun _ => ?_) | refine zBx (fun _ => ?_) | refine zAp (fun _ => ?_))
        rename_i b4
        refine ac_seq ?_
        refine ac_region ?_
        repeat (first | refine gO ?_ | refine zN1 (fun hlen => ?_) | refine zN2 (fun hlen => ?_) | refine zAl (fun _ => ?_) | refine zBx (fun _ => ?_) | refine zAp (fun _ => ?_))
        refine ac_seq ?_
        refine x_join [75, 76, 77, 78, 79, 80, 81, 82, 83, 84, 85, 86, 87, 88, 89, 90, 91, 92, 93, 94, 95, 96, 97, 98, 99, 100, 2, 11, 12] (fun y : {y : ByteArray × Int // okB na ta la.length y.1 y.2 = formN (.mk ka na ta la) ∧ y.1.size ≤ 2} => [(11, .c (.lit (.string y.1.1))), (12, .c (.lit (.int .i64 y.1.2)))])
          (fun _ => [.row u 141 5 all.length (all.flatMap atTs), .box b4 141 [.c (.lit (.int .i64 ka)), .c (.lit (.int .i64 na)), .c (.lit (.string ta)), .c (.row la.length 4 (V.all la)), .c (.lit (.int .i64 (d : Int)))]]) ?_ ?_
        rotate_left
        · skip
          cases e1 : decide (ka = 1)
          · skip
            cases e2 : decide (ka = 2)
            · skip
              cases e6 : decide (ka = 6)
              · skip
                cases e3 : decide (ka = 3)
                · skip
                  cases e4 : decide (ka = 4)
                  · skip
                    cases e5 : decide (ka = 5)
                    · skip
                      cases e7 : decide (ka = 7)
                      · skip
                        cases e8 : decide (ka = 8)
                        · skip
                          repeat (first | refine gG ?_ | refine zN1 (fun hlen => ?_) | refine zN2 (fun hlen => ?_) | refine zAl (fun _ => ?_) | refine zBx (fun _ => ?_) | refine zAp (fun _ => ?_))
                          first | refine zR ?_ | refine zQ ?_
                          rw [hno (by simp_all [formN])]; rfl
                        · obtain rfl := of_decide_eq_true e8
                          repeat (first | refine gG ?_ | refine zN1 (fun hlen => ?_) | refine zN2 (fun hlen => ?_) | refine zAl (fun _ => ?_) | refine zBx (fun _ => ?_) | refine zAp (fun _ => ?_))
                          exact ⟨⟨(⟨#[]⟩, 1), ok8 _ _ _, by decide⟩, x_wkd 2 ⟨rfl, rfl, trivial⟩ rfl (by repeat (first | exact ag_refl | refine ag_upd rfl ?_ | refine ag_at rfl rfl ?_))⟩
                      · obtain rfl := of_decide_eq_true e7
                        repeat (first | refine gG ?_ | refine zN1 (fun hlen => ?_) | refine zN2 (fun hlen => ?_) | refine zAl (fun _ => ?_) | refine zBx (fun _ => ?_) | refine zAp (fun _ => ?_))
                        exact ⟨⟨(⟨#[110, 116]⟩, 400), ok7 _ _ _ hla, by decide⟩, x_wkd 2 ⟨rfl, rfl, trivial⟩ rfl (by repeat (first | exact ag_refl | refine ag_upd rfl ?_ | refine ag_at rfl rfl ?_))⟩
                    · obtain rfl := of_decide_eq_true e5
                      cases e : decide (ta = ⟨#[]⟩)
                      · repeat (first | refine gG ?_ | refine zN1 (fun hlen => ?_) | refine zN2 (fun hlen => ?_) | refine zAl (fun _ => ?_) | refine zBx (fun _ => ?_) | refine zAp (fun _ => ?_))
                        exact ⟨⟨(⟨#[116]⟩, 400), ok5 _ _ _ hla e, by decide⟩, x_wkd 2 ⟨rfl, rfl, trivial⟩ rfl (by repeat (first | exact ag_refl | refine ag_upd rfl ?_ | refine ag_at rfl rfl ?_))⟩
                      · repeat (first | refine gG ?_ | refine zN1 (fun hlen => ?_) | refine zN2 (fun hlen => ?_) | refine zAl (fun _ => ?_) | refine zBx (fun _ => ?_) | refine zAp (fun _ => ?_))
                        first | refine zR ?_ | refine zQ ?_
                        rw [hno (by simp [formN, e])]; rfl
                  · obtain rfl := of_decide_eq_true e4
                    repeat (first | refine gG ?_ | refine zN1 (fun hlen => ?_) | refine zN2 (fun hlen => ?_) | refine zAl (fun _ => ?_) | refine zBx (fun _ => ?_) | refine zAp (fun _ => ?_))
                    exact ⟨⟨(⟨#[116]⟩, 0), ok4 _ _ _, by decide⟩, x_wkd 2 ⟨rfl, rfl, trivial⟩ rfl (by repeat (first | exact ag_refl | refine ag_upd rfl ?_ | refine ag_at rfl rfl ?_))⟩
                · obtain rfl := of_decide_eq_true e3
                  cases e : decide (na = 1)
                  · repeat (first | refine gG ?_ | refine zN1 (fun hlen => ?_) | refine zN2 (fun hlen => ?_) | refine zAl (fun _ => ?_) | refine zBx (fun _ => ?_) | refine zAp (fun _ => ?_))
                    exact ⟨⟨(⟨#[]⟩, 0), ok3 _ _ _ e, by decide⟩, x_wkd 2 ⟨rfl, rfl, trivial⟩ rfl (by repeat (first | exact ag_refl | refine ag_upd rfl ?_ | refine ag_at rfl rfl ?_))⟩
                  · repeat (first | refine gG ?_ | refine zN1 (fun hlen => ?_) | refine zN2 (fun hlen => ?_) | refine zAl (fun _ => ?_) | refine zBx (fun _ => ?_) | refine zAp (fun _ => ?_))
                    exact ⟨⟨(⟨#[110]⟩, 0), ok3' _ _ _ e, by decide⟩, x_wkd 2 ⟨rfl, rfl, trivial⟩ rfl (by repeat (first | exact ag_refl | refine ag_upd rfl ?_ | refine ag_at rfl rfl ?_))⟩
              · obtain rfl := of_decide_eq_true e6
                repeat (first | refine gG ?_ | refine zN1 (fun hlen => ?_) | refine zN2 (fun hlen => ?_) | refine zAl (fun _ => ?_) | refine zBx (fun _ => ?_) | refine zAp (fun _ => ?_))
                exact ⟨⟨(⟨#[110]⟩, 0), ok6 _ _ _, by decide⟩, x_wkd 2 ⟨rfl, rfl, trivial⟩ rfl (by repeat (first | exact ag_refl | refine ag_upd rfl ?_ | refine ag_at rfl rfl ?_))⟩
            · obtain rfl := of_decide_eq_true e2
              repeat (first | refine gG ?_ | refine zN1 (fun hlen => ?_) | refine zN2 (fun hlen => ?_) | refine zAl (fun _ => ?_) | refine zBx (fun _ => ?_) | refine zAp (fun _ => ?_))
              exact ⟨⟨(⟨#[110]⟩, 0), ok2 _ _ _, by decide⟩, x_wkd 2 ⟨rfl, rfl, trivial⟩ rfl (by repeat (first | exact ag_refl | refine ag_upd rfl ?_ | refine ag_at rfl rfl ?_))⟩
          · obtain rfl := of_decide_eq_true e1
            repeat (first | refine gG ?_ | refine zN1 (fun hlen => ?_) | refine zN2 (fun hlen => ?_) | refine zAl (fun _ => ?_) | refine zBx (fun _ => ?_) | refine zAp (fun _ => ?_))
            exact ⟨⟨(⟨#[]⟩, 0), ok1 _ _ _, by decide⟩, x_wkd 2 ⟨rfl, rfl, trivial⟩ rfl (by repeat (first | exact ag_refl | refine ag_upd rfl ?_ | refine ag_at rfl rfl ?_))⟩
        rintro ⟨⟨has, most⟩, hy, hsz⟩
        dsimp only at hy hsz ⊢
        have hc1 := containsB_af 110 has.data.toList
        have hc2 := containsB_af 116 has.data.toList
        repeat (first | refine gG ?_ | refine zN1 (fun hlen => ?_) | refine zN2 (fun hlen => ?_) | refine zAl (fun _ => ?_) | refine zBx (fun _ => ?_) | refine zAp (fun _ => ?_))
        refine zByt (s := has) (by simp only [maxLen]; omega) ?_
        repeat (first | refine gG ?_ | refine zN1 (fun hlen => ?_) | refine zN2 (fun hlen => ?_) | refine zAl (fun _ => ?_) | refine zBx (fun _ => ?_) | refine zAp (fun _ => ?_))
        refine zCall (hc1) ?_
        rintro _ rfl
        repeat (first | refine gG ?_ | refine zN1 (fun hlen => ?_) | refine zN2 (fun hlen => ?_) | refine zAl (fun _ => ?_) | refine zBx (fun _ => ?_) | refine zAp (fun _ => ?_))
        refine zByt (s := has) (by simp only [maxLen]; omega) ?_
        repeat (first | refine gG ?_ | refine zN1 (fun hlen => ?_) | refine zN2 (fun hlen => ?_) | refine zAl (fun _ => ?_) | refine zBx (fun _ => ?_) | refine zAp (fun _ => ?_))
        refine zCall (hc2) ?_
        rintro _ rfl
        cases e1 : decide (na = 0)
        · cases c1 : (has.data.toList.any fun b => decide ((110 : UInt8) = b))
          · skip
            repeat (first | refine gG ?_ | refine zN1 (fun hlen => ?_) | refine zN2 (fun hlen => ?_) | refine zAl (fun _ => ?_) | refine zBx (fun _ => ?_) | refine zAp (fun _ => ?_))
            first | refine zR ?_ | refine zQ ?_
            rw [hno (by rw [← hy]; simp only [okB, e1, c1]; first | rfl | simp)]; rfl
          · skip
            cases e2 : decide (ta = ⟨#[]⟩)
            · cases c2 : (has.data.toList.any fun b => decide ((116 : UInt8) = b))
              · skip
                repeat (first | refine gG ?_ | refine zN1 (fun hlen => ?_) | refine zN2 (fun hlen => ?_) | refine zAl (fun _ => ?_) | refine zBx (fun _ => ?_) | refine zAp (fun _ => ?_))
                first | refine zR ?_ | refine zQ ?_
                rw [hno (by rw [← hy]; simp only [okB, e1, c1, e2, c2]; first | rfl | simp)]; rfl
              · skip
                cases em : decide (most < (la.length : Int))
                · repeat (first | refine gG ?_ | refine zN1 (fun hlen => ?_) | refine zN2 (fun hlen => ?_) | refine zAl (fun _ => ?_) | refine zBx (fun _ => ?_) | refine zAp (fun _ => ?_))
                  exact ⟨j + 1, ⟨hj', by rw [hsa, hjf]; simp only [formP]; rw [← hy]; simp only [okB, e1, c1, e2, c2, em]; first | rfl | simp⟩, by omega, x_wkd 1 ⟨rfl, trivial⟩ rfl (by repeat (first | exact ag_refl | refine ag_upd rfl ?_ | refine ag_at rfl rfl ?_))⟩
                · skip
                  repeat (first | refine gG ?_ | refine zN1 (fun hlen => ?_) | refine zN2 (fun hlen => ?_) | refine zAl (fun _ => ?_) | refine zBx (fun _ => ?_) | refine zAp (fun _ => ?_))
                  first | refine zR ?_ | refine zQ ?_
                  rw [hno (by rw [← hy]; simp only [okB, e1, c1, e2, c2, em]; first | rfl | simp)]; rfl
            · skip
              cases em : decide (most < (la.length : Int))
              · repeat (first | refine gG ?_ | refine zN1 (fun hlen => ?_) | refine zN2 (fun hlen => ?_) | refine zAl (fun _ => ?_) | refine zBx (fun _ => ?_) | refine zAp (fun _ => ?_))
                exact ⟨j + 1, ⟨hj', by rw [hsa, hjf]; simp only [formP]; rw [← hy]; simp only [okB, e1, c1, e2, em]; first | rfl | simp⟩, by omega, x_wkd 1 ⟨rfl, trivial⟩ rfl (by repeat (first | exact ag_refl | refine ag_upd rfl ?_ | refine ag_at rfl rfl ?_))⟩
              · skip
                repeat (first | refine gG ?_ | refine zN1 (fun hlen => ?_) | refine zN2 (fun hlen => ?_) | refine zAl (fun _ => ?_) | refine zBx (fun _ => ?_) | refine zAp (fun _ => ?_))
                first | refine zR ?_ | refine zQ ?_
                rw [hno (by rw [← hy]; simp only [okB, e1, c1, e2, em]; first | rfl | simp)]; rfl
        · skip
          cases e2 : decide (ta = ⟨#[]⟩)
          · cases c2 : (has.data.toList.any fun b => decide ((116 : UInt8) = b))
            · skip
              repeat (first | refine gG ?_ | refine zN1 (fun hlen => ?_) | refine zN2 (fun hlen => ?_) | refine zAl (fun _ => ?_) | refine zBx (fun _ => ?_) | refine zAp (fun _ => ?_))
              first | refine zR ?_ | refine zQ ?_
              rw [hno (by rw [← hy]; simp only [okB, e1, e2, c2]; first | rfl | simp)]; rfl
            · skip
              cases em : decide (most < (la.length : Int))
              · repeat (first | refine gG ?_ | refine zN1 (fun hlen => ?_) | refine zN2 (fun hlen => ?_) | refine zAl (fun _ => ?_) | refine zBx (fun _ => ?_) | refine zAp (fun _ => ?_))
                exact ⟨j + 1, ⟨hj', by rw [hsa, hjf]; simp only [formP]; rw [← hy]; simp only [okB, e1, e2, c2, em]; first | rfl | simp⟩, by omega, x_wkd 1 ⟨rfl, trivial⟩ rfl (by repeat (first | exact ag_refl | refine ag_upd rfl ?_ | refine ag_at rfl rfl ?_))⟩
              · skip
                repeat (first | refine gG ?_ | refine zN1 (fun hlen => ?_) | refine zN2 (fun hlen => ?_) | refine zAl (fun _ => ?_) | refine zBx (fun _ => ?_) | refine zAp (fun _ => ?_))
                first | refine zR ?_ | refine zQ ?_
                rw [hno (by rw [← hy]; simp only [okB, e1, e2, c2, em]; first | rfl | simp)]; rfl
          · skip
            cases em : decide (most < (la.length : Int))
            · repeat (first | refine gG ?_ | refine zN1 (fun hlen => ?_) | refine zN2 (fun hlen => ?_) | refine zAl (fun _ => ?_) | refine zBx (fun _ => ?_) | refine zAp (fun _ => ?_))
              exact ⟨j + 1, ⟨hj', by rw [hsa, hjf]; simp only [formP]; rw [← hy]; simp only [okB, e1, e2, em]; first | rfl | simp⟩, by omega, x_wkd 1 ⟨rfl, trivial⟩ rfl (by repeat (first | exact ag_refl | refine ag_upd rfl ?_ | refine ag_at rfl rfl ?_))⟩
            · skip
              repeat (first | refine gG ?_ | refine zN1 (fun hlen => ?_) | refine zN2 (fun hlen => ?_) | refine zAl (fun _ => ?_) | refine zBx (fun _ => ?_) | refine zAp (fun _ => ?_))
              first | refine zR ?_ | refine zQ ?_
              rw [hno (by rw [← hy]; simp only [okB, e1, e2, em]; first | rfl | simp)]; rfl
      · have hj' : j = all.length := by have : ¬ j < all.length := by simpa using h
                                        omega
        subst hj'
        rw [List.take_length] at hjf
        repeat (first | refine gG ?_ | refine zN1 (fun hlen => ?_) | refine zN2 (fun hlen => ?_) | refine zAl (fun _ => ?_) | refine zBx (fun _ => ?_) | refine zAp (fun _ => ?_))
        first | refine zR ?_ | refine zQ ?_
        rw [V.check, hbig, ← hdone.2 formP, hjf]; rfl
end Go.Proofs.Ythgackidonocpaa
namespace Go.Proofs.Ythgackidonocpaa
open Go.RowKit
/-- the bytes of a value and the error -/
def V.out (v : V) : List UInt8 := if v.check = 0 then v.bytes else []
def Outs2 (b : List UInt8) (e : Int) (t : T) : Prop := t = .tup [bytRow b, .lit (.int .i64 e)]
set_option maxRecDepth 100000 in
set_option maxHeartbeats 2000000 in
theorem sameBytes_af (a b : List UInt8) : AF Try.prog 19 [bytRow a, bytRow b] (· = .lit (.bool (decide (bs a = bs b)))) := by
  refine af_enter tok Try.func19 Try.ntmps19 Try.results19 rfl (by kernel_rfl) rfl rfl fun F hX => ?_
  repeat (first | refine gG ?_)
  refine zStr a rfl rfl ?_
  repeat (first | refine gG ?_)
  refine zStr b rfl rfl ?_
  repeat (first | refine gG ?_)
  first | refine zR ?_ | refine zQ ?_
  rfl
end Go.Proofs.Ythgackidonocpaa
namespace Go.Proofs.Ythgackidonocpaa
open Go.RowKit
inductive Lt where
  | mk (k fm tt n : Int) (t : ByteArray) (v : V)
def Lt.val : Lt → V
  | .mk _ _ _ _ _ v => v
def Lt.ts : Lt → List T
  | .mk k fm tt n t v => [.lit (.int .i64 k), .lit (.int .i64 fm), .lit (.int .i64 tt), .lit (.int .i64 n), .lit (.string t)] ++ v.ts
def Lt.t (x : Lt) : T := .agg x.ts
theorem Lt.ts_len (x : Lt) : x.ts.length = 9 := by obtain ⟨k, fm, tt, n, t, v⟩ := x; simp [Lt.ts, V.ts_len]
def V.isZ : V → Bool
  | .mk k n t l => decide (k = 0) && decide (n = 0) && decide (t = ⟨#[]⟩) && decide ((l.length : Int) = 0)
def Lt.bad1 (k fm tt n : Int) (t : ByteArray) : Bool := decide (fm < 0) || decide (tt < 0) || decide (k < 1) || decide ((5 : Int) < k) || ((!decide (t = ⟨#[]⟩)) && !(decide (k = 2) || decide (k = 5))) || ((!decide (n = 0)) && !decide (k = 2)) || decide (n < 0) || decide ((2 : Int) < n)
def Lt.check : Lt → Int
  | .mk k fm tt n t v => if decide ((4000 : Int) < (t.size : Int)) = true then 2 else if Lt.bad1 k fm tt n t = true then 3 else if decide (k = 1) = true then v.check else if (!v.isZ) = true then 3 else 0
def Lt.fault : Lt → Int
  | .mk k fm tt n t v => if decide ((4000 : Int) < (t.size : Int)) = true then 2 else if (decide (fm < 0) || decide (tt < 0) || decide (k < 1) || decide ((5 : Int) < k)) = true then 3 else if ((!decide (k = 2) && !decide (n = 0)) || decide (n < 0) || decide ((2 : Int) < n)) = true then 3 else if (!decide (k = 2) && !decide (k = 5) && !decide (t = ⟨#[]⟩)) = true then 3 else if decide (k = 1) = true then v.check else if (!v.isZ) = true then 3 else 0
theorem bool_fault (qA q1 q2 q3 q4 q5 q6 q7 : Bool) (X : Int) : (if qA = true then 2 else if q1 = true then 3 else if ((!q2 && !q4) || q5 || q6) = true then 3 else if (!q2 && !q3 && !q7) = true then 3 else X) = (if qA = true then 2 else if (q1 || ((!q7) && !(q2 || q3)) || ((!q4) && !q2) || q5 || q6) = true then 3 else X) := by
  cases qA <;> cases q1 <;> cases q2 <;> cases q3 <;> cases q4 <;> cases q5 <;> cases q6 <;> cases q7 <;> rfl
theorem Lt.fault_eq (x : Lt) : x.fault = x.check := by
  obtain ⟨k, fm, tt, n, t, v⟩ := x
  unfold Lt.fault Lt.check Lt.bad1
  exact bool_fault _ _ _ _ _ _ _ _ _
def Lt.bytes : Lt → List UInt8
  | .mk k fm tt n t v => kb k :: (uv fm.toNat ++ (uv tt.toNat ++ (uv n.toNat ++ (uv t.size ++ (t.data.toList ++ (if k = 1 then v.bytes else []))))))
/-- of a letter that is right -/
structure Lt.Right (k fm tt n : Int) (t : ByteArray) (v : V) : Prop where
  size : t.size ≤ 4000
  fm0 : 0 ≤ fm
  tt0 : 0 ≤ tt
  k1 : 1 ≤ k ∧ k ≤ 5
  n0 : 0 ≤ n ∧ n ≤ 2
  val : k = 1 → v.check = 0
  zero : k ≠ 1 → v = V.zero
theorem isZ_zero {v : V} (h : v.isZ = true) : v = V.zero := by
  obtain ⟨k, n, t, l⟩ := v
  simp only [V.isZ, Bool.and_eq_true, decide_eq_true_eq] at h
  obtain ⟨⟨⟨rfl, rfl⟩, rfl⟩, h4⟩ := h
  have : l = [] := List.eq_nil_of_length_eq_zero (by omega)
  subst this
  rfl
theorem Lt.right {k fm tt n : Int} {t : ByteArray} {v : V} (h : (Lt.mk k fm tt n t v).check = 0) : Lt.Right k fm tt n t v := by
  simp only [Lt.check] at h
  split at h
  · omega
  · rename_i h1
    split at h
    · omega
    · rename_i h2
      simp only [decide_eq_true_eq] at h1
      simp only [Lt.bad1, Bool.or_eq_true, not_or, decide_eq_true_eq] at h2
      obtain ⟨⟨⟨⟨⟨⟨⟨a1, a2⟩, a3⟩, a4⟩, -⟩, -⟩, a5⟩, a6⟩ := h2
      refine ⟨by omega, by omega, by omega, by omega, by omega, fun hk => ?_, fun hk => ?_⟩
      · rw [if_pos (by simpa using hk)] at h; exact h
      · rw [if_neg (by simpa using hk)] at h
        split at h
        · omega
        · rename_i h3
          exact isZ_zero (by simpa using h3)
def Lt.out (x : Lt) : List UInt8 := if x.check = 0 then x.bytes else []
def Lt.zero : Lt := .mk 0 0 0 0 ⟨#[]⟩ V.zero
/-- what was taken is small -/
structure Lt.Small (x : Lt) : Prop where
  ok : x.val.ok
  size : x.val.size ≤ 1048576
  bytes : x.val.bytes.length ≤ 1000000000
  nums : match x with | .mk _ fm tt n t _ => inI fm ∧ inI tt ∧ inI n ∧ t.size ≤ 1000000000
end Go.Proofs.Ythgackidonocpaa
namespace Go.Proofs.Ythgackidonocpaa
open Go.RowKit
set_option maxRecDepth 100000 in
set_option maxHeartbeats 8000000 in
theorem isZero_af (v : V) : AF Try.prog 89 [v.t] (· = .lit (.bool v.isZ)) := by
  obtain ⟨k, n, t, l⟩ := v
  refine af_enter tok Try.func89 Try.ntmps89 Try.results89 rfl (by kernel_rfl) rfl rfl fun F hX => ?_
  cases d1 : decide (k = 0)
  · repeat (first | refine gG ?_ | refine zN1 (fun hlen => ?_) | refine zN2 (fun hlen => ?_) | refine zBf ?_)
    first | refine zR ?_ | refine zQ ?_
    simp only [V.isZ, d1]; rfl
  cases d2 : decide (n = 0)
  · repeat (first | refine gG ?_ | refine zN1 (fun hlen => ?_) | refine zN2 (fun hlen => ?_) | refine zBf ?_)
    first | refine zR ?_ | refine zQ ?_
    simp only [V.isZ, d1, d2]; rfl
  cases d3 : decide (t = ⟨#[]⟩)
  · repeat (first | refine gG ?_ | refine zN1 (fun hlen => ?_) | refine zN2 (fun hlen => ?_) | refine zBf ?_)
    first | refine zR ?_ | refine zQ ?_
    simp only [V.isZ, d1, d2, d3]; rfl
  repeat (first | refine gG ?_ | refine zN1 (fun hlen => ?_) | refine zN2 (fun hlen => ?_) | refine zBf ?_)
  first | refine zR ?_ | refine zQ ?_
  simp only [V.isZ, d1, d2, d3]; rfl
set_option maxRecDepth 100000 in
set_option maxHeartbeats 8000000 in
theorem none_af (v : V) : AF Try.prog 90 [v.t] (· = .lit (.bool v.isZ)) := by
  obtain ⟨k, n, t, l⟩ := v
  refine af_enter tok Try.func90 Try.ntmps90 Try.results90 rfl (by kernel_rfl) rfl rfl fun F hX => ?_
  cases d1 : decide (k = 0)
  · repeat (first | refine gG ?_ | refine zN1 (fun hlen => ?_) | refine zN2 (fun hlen => ?_) | refine zBf ?_)
    first | refine zR ?_ | refine zQ ?_
    simp only [V.isZ, d1]; rfl
  cases d2 : decide (n = 0)
  · repeat (first | refine gG ?_ | refine zN1 (fun hlen => ?_) | refine zN2 (fun hlen => ?_) | refine zBf ?_)
    first | refine zR ?_ | refine zQ ?_
    simp only [V.isZ, d1, d2]; rfl
  cases d3 : decide (t = ⟨#[]⟩)
  · repeat (first | refine gG ?_ | refine zN1 (fun hlen => ?_) | refine zN2 (fun hlen => ?_) | refine zBf ?_)
    first | refine zR ?_ | refine zQ ?_
    simp only [V.isZ, d1, d2, d3]; rfl
  repeat (first | refine gG ?_ | refine zN1 (fun hlen => ?_) | refine zN2 (fun hlen => ?_) | refine zBf ?_)
  first | refine zR ?_ | refine zQ ?_
  simp only [V.isZ, d1, d2, d3]; rfl
set_option maxRecDepth 100000 in
set_option maxHeartbeats 8000000 in
theorem checkLetter_af (x : Lt) : AF Try.prog 28 [x.t] (· = .lit (.int .i64 x.check)) := by
  obtain ⟨k, fm, tt, n, t, v⟩ := x
  have h1 := check_af v
  have h2 := isZero_af v
  simp only [Lt.check]
  generalize v.check = cv at *
  generalize v.isZ = zv at *
  obtain ⟨kv, nv, tv, lv⟩ := v
  refine af_enter tok Try.func28 Try.ntmps28 Try.results28 rfl (by kernel_rfl) rfl rfl fun F hX => ?_
  refine ac_seq ?_
  refine ac_region ?_
  repeat (first | refine gO ?_ | refine zN1 (fun hlen => ?_) | refine zN2 (fun hlen => ?_) | refine zBf ?_)
  refine ac_seq ?_
  refine x_join [4, 5, 6, 7, 8, 9, 10, 11, 3] (fun y : {y : Bool // y = (decide (k = 2) || decide (k = 5))} => [(3, .c (.lit (.bool y.1)))]) (fun _ => []) ?_ ?_
  rotate_left
  · cases qK2 : decide (k = 2)
    · refine ac_region ?_
      repeat (first | refine gO ?_ | refine zN1 (fun hlen => ?_) | refine zN2 (fun hlen => ?_) | refine zBx (fun _ => ?_))
      exact ⟨⟨decide (k = 5), rfl⟩, x_wkd 0 ⟨rfl, trivial⟩ rfl (by repeat (first | exact ag_refl | refine ag_upd rfl ?_ | refine ag_at rfl rfl ?_))⟩
    · refine ac_region ?_
      repeat (first | refine gO ?_ | refine zN1 (fun hlen => ?_) | refine zN2 (fun hlen => ?_) | refine zBx (fun _ => ?_))
      exact ⟨⟨true, rfl⟩, x_wkd 0 ⟨rfl, trivial⟩ rfl (by repeat (first | exact ag_refl | refine ag_upd rfl ?_ | refine ag_at rfl rfl ?_))⟩
  rintro ⟨tx, htx⟩
  dsimp only
  refine ac_seq ?_
  refine ac_block ?_
  refine ac_seq ?_
  refine ac_region ?_
  repeat (first | refine gO ?_ | refine zN1 (fun hlen => ?_) | refine zN2 (fun hlen => ?_) | refine zBx (fun _ => ?_))
  refine x_cond rfl (fun qA => ?_) (fun qA => ?_)
  · repeat (first | refine gG ?_ | refine zN1 (fun hlen => ?_) | refine zN2 (fun hlen => ?_) | refine zBx (fun _ => ?_))
    first | refine zR ?_ | refine zQ ?_
    rw [if_pos qA]; rfl
  rw [if_neg (by rw [qA]; decide)]
  refine ac_seq ?_
  refine x_join [18, 19, 20, 21, 22, 23, 24, 25, 26, 27, 28, 29, 30, 31, 32, 33, 34, 35, 36, 37, 38, 39, 40, 41, 42, 43, 44, 45, 46, 47, 48, 49, 50, 51, 52, 53, 54, 55, 56, 57, 58, 59, 60, 61, 62, 63, 64, 17] (fun y : {y : Bool // y = Lt.bad1 k fm tt n t} => [(17, .c (.lit (.bool y.1)))]) (fun _ => []) ?_ ?_
  rotate_left
  · skip
    cases qF : decide (fm < 0)
    · skip
      cases qT : decide (tt < 0)
      · skip
        cases qK1 : decide (k < 1)
        · skip
          cases qK5x : decide ((5 : Int) < k)
          · skip
            cases qE : decide (t = ⟨#[]⟩)
            · skip
              cases qTX : tx
              · skip
                refine ac_region ?_
                repeat (first | refine gO ?_ | refine zN1 (fun hlen => ?_) | refine zN2 (fun hlen => ?_) | refine zBx (fun _ => ?_))
                exact ⟨⟨true, by rw [Lt.bad1, ← htx, qTX]; simp only [qF, qT, qK1, qK5x, qE]; first | rfl | simp⟩, x_wkd 0 ⟨rfl, trivial⟩ rfl (by repeat (first | exact ag_refl | refine ag_upd rfl ?_ | refine ag_at rfl rfl ?_))⟩
              · skip
                cases qN0 : decide (n = 0)
                · skip
                  cases qK2 : decide (k = 2)
                  · skip
                    refine ac_region ?_
                    repeat (first | refine gO ?_ | refine zN1 (fun hlen => ?_) | refine zN2 (fun hlen => ?_) | refine zBx (fun _ => ?_))
                    exact ⟨⟨true, by rw [Lt.bad1, ← htx, qTX]; simp only [qF, qT, qK1, qK5x, qE, qN0, qK2]; first | rfl | simp⟩, x_wkd 0 ⟨rfl, trivial⟩ rfl (by repeat (first | exact ag_refl | refine ag_upd rfl ?_ | refine ag_at rfl rfl ?_))⟩
                  · skip
                    cases qNn : decide (n < 0)
                    · skip
                      refine ac_region ?_
                      repeat (first | refine gO ?_ | refine zN1 (fun hlen => ?_) | refine zN2 (fun hlen => ?_) | refine zBx (fun _ => ?_))
                      exact ⟨⟨decide ((2 : Int) < n), by rw [Lt.bad1, ← htx, qTX]; simp only [qF, qT, qK1, qK5x, qE, qN0, qK2, qNn]; first | rfl | simp⟩, x_wkd 0 ⟨rfl, trivial⟩ rfl (by repeat (first | exact ag_refl | refine ag_upd rfl ?_ | refine ag_at rfl rfl ?_))⟩
                    · skip
                      refine ac_region ?_
                      repeat (first | refine gO ?_ | refine zN1 (fun hlen => ?_) | refine zN2 (fun hlen => ?_) | refine zBx (fun _ => ?_))
                      exact ⟨⟨true, by rw [Lt.bad1, ← htx, qTX]; simp only [qF, qT, qK1, qK5x, qE, qN0, qK2, qNn]; first | rfl | simp⟩, x_wkd 0 ⟨rfl, trivial⟩ rfl (by repeat (first | exact ag_refl | refine ag_upd rfl ?_ | refine ag_at rfl rfl ?_))⟩
                · skip
                  cases qNn : decide (n < 0)
                  · skip
                    refine ac_region ?_
                    repeat (first | refine gO ?_ | refine zN1 (fun hlen => ?_) | refine zN2 (fun hlen => ?_) | refine zBx (fun _ => ?_))
                    exact ⟨⟨decide ((2 : Int) < n), by rw [Lt.bad1, ← htx, qTX]; simp only [qF, qT, qK1, qK5x, qE, qN0, qNn]; first | rfl | simp⟩, x_wkd 0 ⟨rfl, trivial⟩ rfl (by repeat (first | exact ag_refl | refine ag_upd rfl ?_ | refine ag_at rfl rfl ?_))⟩
                  · skip
                    refine ac_region ?_
                    repeat (first | refine gO ?_ | refine zN1 (fun hlen => ?_) | refine zN2 (fun hlen => ?_) | refine zBx (fun _ => ?_))
                    exact ⟨⟨true, by rw [Lt.bad1, ← htx, qTX]; simp only [qF, qT, qK1, qK5x, qE, qN0, qNn]; first | rfl | simp⟩, x_wkd 0 ⟨rfl, trivial⟩ rfl (by repeat (first | exact ag_refl | refine ag_upd rfl ?_ | refine ag_at rfl rfl ?_))⟩
            · skip
              cases qN0 : decide (n = 0)
              · skip
                cases qK2 : decide (k = 2)
                · skip
                  refine ac_region ?_
                  repeat (first | refine gO ?_ | refine zN1 (fun hlen => ?_) | refine zN2 (fun hlen => ?_) | refine zBx (fun _ => ?_))
                  exact ⟨⟨true, by rw [Lt.bad1, ← htx]; simp only [qF, qT, qK1, qK5x, qE, qN0, qK2]; first | rfl | simp⟩, x_wkd 0 ⟨rfl, trivial⟩ rfl (by repeat (first | exact ag_refl | refine ag_upd rfl ?_ | refine ag_at rfl rfl ?_))⟩
                · skip
                  cases qNn : decide (n < 0)
                  · skip
                    refine ac_region ?_
                    repeat (first | refine gO ?_ | refine zN1 (fun hlen => ?_) | refine zN2 (fun hlen => ?_) | refine zBx (fun _ => ?_))
                    exact ⟨⟨decide ((2 : Int) < n), by rw [Lt.bad1, ← htx]; simp only [qF, qT, qK1, qK5x, qE, qN0, qK2, qNn]; first | rfl | simp⟩, x_wkd 0 ⟨rfl, trivial⟩ rfl (by repeat (first | exact ag_refl | refine ag_upd rfl ?_ | refine ag_at rfl rfl ?_))⟩
                  · skip
                    refine ac_region ?_
                    repeat (first | refine gO ?_ | refine zN1 (fun hlen => ?_) | refine zN2 (fun hlen => ?_) | refine zBx (fun _ => ?_))
                    exact ⟨⟨true, by rw [Lt.bad1, ← htx]; simp only [qF, qT, qK1, qK5x, qE, qN0, qK2, qNn]; first | rfl | simp⟩, x_wkd 0 ⟨rfl, trivial⟩ rfl (by repeat (first | exact ag_refl | refine ag_upd rfl ?_ | refine ag_at rfl rfl ?_))⟩
              · skip
                cases qNn : decide (n < 0)
                · skip
                  refine ac_region ?_
                  repeat (first | refine gO ?_ | refine zN1 (fun hlen => ?_) | refine zN2 (fun hlen => ?_) | refine zBx (fun _ => ?_))
                  exact ⟨⟨decide ((2 : Int) < n), by rw [Lt.bad1, ← htx]; simp only [qF, qT, qK1, qK5x, qE, qN0, qNn]; first | rfl | simp⟩, x_wkd 0 ⟨rfl, trivial⟩ rfl (by repeat (first | exact ag_refl | refine ag_upd rfl ?_ | refine ag_at rfl rfl ?_))⟩
                · skip
                  refine ac_region ?_
                  repeat (first | refine gO ?_ | refine zN1 (fun hlen => ?_) | refine zN2 (fun hlen => ?_) | refine zBx (fun _ => ?_))
                  exact ⟨⟨true, by rw [Lt.bad1, ← htx]; simp only [qF, qT, qK1, qK5x, qE, qN0, qNn]; first | rfl | simp⟩, x_wkd 0 ⟨rfl, trivial⟩ rfl (by repeat (first | exact ag_refl | refine ag_upd rfl ?_ | refine ag_at rfl rfl ?_))⟩
          · skip
            refine ac_region ?_
            repeat (first | refine gO ?_ | refine zN1 (fun hlen => ?_) | refine zN2 (fun hlen => ?_) | refine zBx (fun _ => ?_))
            exact ⟨⟨true, by rw [Lt.bad1, ← htx]; simp only [qF, qT, qK1, qK5x]; first | rfl | simp⟩, x_wkd 0 ⟨rfl, trivial⟩ rfl (by repeat (first | exact ag_refl | refine ag_upd rfl ?_ | refine ag_at rfl rfl ?_))⟩
        · skip
          refine ac_region ?_
          repeat (first | refine gO ?_ | refine zN1 (fun hlen => ?_) | refine zN2 (fun hlen => ?_) | refine zBx (fun _ => ?_))
          exact ⟨⟨true, by rw [Lt.bad1, ← htx]; simp only [qF, qT, qK1]; first | rfl | simp⟩, x_wkd 0 ⟨rfl, trivial⟩ rfl (by repeat (first | exact ag_refl | refine ag_upd rfl ?_ | refine ag_at rfl rfl ?_))⟩
      · skip
        refine ac_region ?_
        repeat (first | refine gO ?_ | refine zN1 (fun hlen => ?_) | refine zN2 (fun hlen => ?_) | refine zBx (fun _ => ?_))
        exact ⟨⟨true, by rw [Lt.bad1, ← htx]; simp only [qF, qT]; first | rfl | simp⟩, x_wkd 0 ⟨rfl, trivial⟩ rfl (by repeat (first | exact ag_refl | refine ag_upd rfl ?_ | refine ag_at rfl rfl ?_))⟩
    · skip
      refine ac_region ?_
      repeat (first | refine gO ?_ | refine zN1 (fun hlen => ?_) | refine zN2 (fun hlen => ?_) | refine zBx (fun _ => ?_))
      exact ⟨⟨true, by rw [Lt.bad1, ← htx]; simp only [qF]; first | rfl | simp⟩, x_wkd 0 ⟨rfl, trivial⟩ rfl (by repeat (first | exact ag_refl | refine ag_upd rfl ?_ | refine ag_at rfl rfl ?_))⟩
  rintro ⟨bd, hbd⟩
  dsimp only
  rw [← hbd]
  cases bd
  rotate_left
  · repeat (first | refine gG ?_ | refine zN1 (fun hlen => ?_) | refine zN2 (fun hlen => ?_) | refine zBx (fun _ => ?_))
    first | refine zR ?_ | refine zQ ?_
    rfl
  cases qKM : decide (k = 1)
  · repeat (first | refine gG ?_ | refine zN1 (fun hlen => ?_) | refine zN2 (fun hlen => ?_) | refine zBx (fun _ => ?_))
    refine zCall (h2) ?_
    rintro _ rfl
    cases zv
    · repeat (first | refine gG ?_ | refine zN1 (fun hlen => ?_) | refine zN2 (fun hlen => ?_) | refine zBx (fun _ => ?_))
      first | refine zR ?_ | refine zQ ?_
      rfl
    · repeat (first | refine gG ?_ | refine zN1 (fun hlen => ?_) | refine zN2 (fun hlen => ?_) | refine zBx (fun _ => ?_))
      first | refine zR ?_ | refine zQ ?_
      rfl
  · repeat (first | refine gG ?_ | refine zN1 (fun hlen => ?_) | refine zN2 (fun hlen => ?_) | refine zBx (fun _ => ?_))
    refine zCall (h1) ?_
    rintro _ rfl
    repeat (first | refine gG ?_ | refine zN1 (fun hlen => ?_) | refine zN2 (fun hlen => ?_) | refine zBx (fun _ => ?_))
    first | refine zR ?_ | refine zQ ?_
    rfl
end Go.Proofs.Ythgackidonocpaa
namespace Go.Proofs.Ythgackidonocpaa
open Go.RowKit
structure Inp where
  kind : Int
  val : V
def Inp.ts (x : Inp) : List T := .lit (.int .i64 x.kind) :: x.val.ts
theorem Inp.ts_len (x : Inp) : x.ts.length = 5 := by simp [Inp.ts, V.ts_len]
def Inp.same (x y : Inp) : Bool := decide (x.kind = y.kind) && x.val.same y.val
def Inp.t (x : Inp) : T := .agg x.ts
structure Sav where
  actor : ByteArray
  state : List V
  inputs : List Inp
def inpRow (l : List Inp) : T := .row l.length 5 (l.flatMap Inp.ts)
def Sav.t (s : Sav) : T := .agg [.lit (.string s.actor), V.row s.state, inpRow s.inputs]
def Sav.same (s s' : Sav) : Bool := decide (s.actor = s'.actor) && eqBy V.same s.state s'.state && eqBy Inp.same s.inputs s'.inputs
set_option maxRecDepth 100000 in
set_option maxHeartbeats 1000000 in
theorem savedSmall_af (s : Sav) (h1 : ∀ v ∈ s.state, v.size ≤ 1048576) (h2 : ∀ x ∈ s.inputs, x.val.size ≤ 1048576) (hn : s.state.length ≤ 1048576) : AF Try.prog 33 [s.t] Tell := by
  have hvs := valuesSmall_af s.state h1 hn
  obtain ⟨ac, st, l⟩ := s
  dsimp only at *
  refine af_enter tok Try.func33 Try.ntmps33 Try.results33 rfl (by kernel_rfl) rfl rfl fun F hX => ?_
  repeat (first | refine gG ?_ | refine zN1 (fun hlen => ?_) | refine zN2 (fun hlen => ?_) | refine zAl (fun _ => ?_) | refine zBx (fun _ => ?_))
  rename_i b0
  refine x_loop [2, 4, 8, 9, 10, 11, 12, 13, 14, 15, 16] (fun k : Nat => [(8, .c (.lit (.int .i64 k)))]) (fun _ => [.box b0 47 [.c (.lit (.string ac)), .c (V.row st), .c (inpRow l)]]) (fun k => k ≤ l.length) (fun k => l.length - k) 0 (Nat.zero_le _) ⟨rfl, trivial⟩ rfl fun k hk => ?_
  repeat (first | refine gG ?_ | refine zN1 (fun hlen => ?_) | refine zN2 (fun hlen => ?_) | refine zAl (fun _ => ?_) | refine zBx (fun _ => ?_))
  refine x_cond rfl (fun h => ?_) (fun h => ?_)
  · have hk' : k < l.length := by simpa using h
    obtain ⟨a, ha⟩ := nth hk'
    have hs := valueSmall_af a.val (h2 a (List.mem_of_getElem? ha))
    repeat (first | refine gG ?_ | refine zN1 (fun hlen => ?_) | refine zN2 (fun hlen => ?_) | refine zAl (fun _ => ?_) | refine zBx (fun _ => ?_))
    refine zIx (k) (hk') ?_
    repeat (first | refine gG ?_ | refine zN1 (fun hlen => ?_) | refine zN2 (fun hlen => ?_) | refine zAl (fun _ => ?_) | refine zBx (fun _ => ?_))
    refine zEl (flat_at Inp.ts 5 Inp.ts_len ha) (Inp.ts_len a) ?_
    obtain ⟨kd, ⟨ka, na, ta, la⟩⟩ := a
    repeat (first | refine gG ?_ | refine zN1 (fun hlen => ?_) | refine zN2 (fun hlen => ?_) | refine zAl (fun _ => ?_) | refine zBx (fun _ => ?_))
    refine zCall (hs) ?_
    rintro _ ⟨b, rfl⟩
    repeat (first | refine gG ?_ | refine zN1 (fun hlen => ?_) | refine zN2 (fun hlen => ?_) | refine zAl (fun _ => ?_) | refine zBx (fun _ => ?_))
    refine x_cond rfl (fun h => ?_) (fun h => ?_)
    · repeat (first | refine gG ?_ | refine zN1 (fun hlen => ?_) | refine zN2 (fun hlen => ?_) | refine zAl (fun _ => ?_) | refine zBx (fun _ => ?_))
      first | refine zR ?_ | refine zQ ?_
      exact ⟨_, rfl⟩
    · repeat (first | refine gG ?_ | refine zN1 (fun hlen => ?_) | refine zN2 (fun hlen => ?_) | refine zAl (fun _ => ?_) | refine zBx (fun _ => ?_))
      exact ⟨k + 1, hk', by omega, x_wkd 1 ⟨rfl, trivial⟩ rfl (by repeat (first | exact ag_refl | refine ag_upd rfl ?_ | refine ag_at rfl rfl ?_))⟩
  · repeat (first | refine gG ?_ | refine zN1 (fun hlen => ?_) | refine zN2 (fun hlen => ?_) | refine zAl (fun _ => ?_) | refine zBx (fun _ => ?_))
    refine zCall (hvs) ?_
    rintro _ ⟨b, rfl⟩
    repeat (first | refine gG ?_ | refine zN1 (fun hlen => ?_) | refine zN2 (fun hlen => ?_) | refine zAl (fun _ => ?_) | refine zBx (fun _ => ?_))
    first | refine zR ?_ | refine zQ ?_
    exact ⟨_, rfl⟩
end Go.Proofs.Ythgackidonocpaa
namespace Go.Proofs.Ythgackidonocpaa
open Go.RowKit
/-- the first that is not nought -/
def errs : List Int → Int
  | [] => 0
  | e :: r => if e = 0 then errs r else e
theorem errs_all {α : Type} (f : α → Int) : ∀ {l : List α}, (∀ x ∈ l, f x = 0) → errs (l.map f) = 0
  | [], _ => rfl
  | a :: l, h => by rw [List.map_cons, errs, if_pos (h a (by simp)), errs_all f fun x hx => h x (List.mem_cons_of_mem _ hx)]
theorem errs_at {α : Type} (f : α → Int) : ∀ {l : List α} {k : Nat} {a : α}, (∀ x ∈ l.take k, f x = 0) → l[k]? = some a → f a ≠ 0 → errs (l.map f) = f a
  | [], _, _, _, h, _ => by simp at h
  | b :: l, 0, a, _, h, h0 => by
    obtain rfl : b = a := by simpa using h
    rw [List.map_cons, errs, if_neg h0]
  | b :: l, k + 1, a, h, ha, h0 => by
    rw [List.map_cons, errs, if_pos (h b (by simp))]
    exact errs_at f (k := k) (fun x hx => h x (by simp [hx])) (by simpa using ha) h0
theorem errs_zero {α : Type} (f : α → Int) : ∀ {l : List α}, errs (l.map f) = 0 → ∀ x ∈ l, f x = 0
  | [], _, x, hx => by simp at hx
  | a :: l, h, x, hx => by
    rw [List.map_cons, errs] at h
    split at h
    · rename_i h0
      rcases List.mem_cons.1 hx with rfl | hx
      · exact h0
      · exact errs_zero f h x hx
    · rename_i h0; exact absurd h h0
theorem take_snoc {α : Type} {p : α → Prop} {l : List α} {k : Nat} {a : α} (ha : l[k]? = some a) (h : ∀ x ∈ l.take k, p x) (h0 : p a) : ∀ x ∈ l.take (k + 1), p x := by
  obtain ⟨h1, rfl⟩ := List.getElem?_eq_some_iff.1 ha
  rw [List.take_succ_eq_append_getElem h1]
  intro x hx
  rcases List.mem_append.1 hx with hx | hx
  · exact h x hx
  · rw [List.mem_singleton.1 hx]; exact h0
def Inp.bytes (x : Inp) : List UInt8 := kb x.kind :: (if x.kind = 3 then [] else x.val.bytes)
def Inp.bad (x : Inp) : Bool := decide (x.kind < 1) || decide ((3 : Int) < x.kind) || (decide (x.kind = 3) && !x.val.isZ)
def Inp.check (x : Inp) : Int := if x.bad = true then 3 else if decide (x.kind = 3) = true then 0 else x.val.check
def Sav.bytes (s : Sav) : List UInt8 := uv s.actor.size ++ (s.actor.data.toList ++ (uv s.state.length ++ (s.state.flatMap V.bytes ++ (uv s.inputs.length ++ s.inputs.flatMap Inp.bytes))))
def Sav.check (s : Sav) : Int :=
  if (decide ((s.actor.size : Int) < 1) || decide ((16 : Int) < (s.actor.size : Int))) = true then 3
  else if (decide ((6 : Int) < (s.state.length : Int)) || decide ((2000 : Int) < (s.inputs.length : Int))) = true then 2
  else if errs (s.state.map V.check) = 0 then errs (s.inputs.map Inp.check) else errs (s.state.map V.check)
/-- of what is right -/
structure Inp.Right (x : Inp) : Prop where
  kind : 1 ≤ x.kind ∧ x.kind ≤ 3
  val : x.kind ≠ 3 → x.val.check = 0
  zero : x.kind = 3 → x.val = V.zero
theorem Inp.right {x : Inp} (h : x.check = 0) : x.Right := by
  unfold Inp.check at h
  split at h
  · omega
  · rename_i h1
    simp only [Inp.bad, Bool.or_eq_true, Bool.and_eq_true, decide_eq_true_eq, not_or, not_and, Bool.not_eq_true', Bool.not_eq_false] at h1
    obtain ⟨⟨a1, a2⟩, a3⟩ := h1
    refine ⟨by omega, fun hk => ?_, fun hk => isZ_zero (a3 hk)⟩
    rw [if_neg (by simpa using hk)] at h
    exact h
structure Sav.Right (s : Sav) : Prop where
  actor : 1 ≤ s.actor.size ∧ s.actor.size ≤ 16
  states : s.state.length ≤ 6
  inps : s.inputs.length ≤ 2000
  state : ∀ v ∈ s.state, v.check = 0
  inp : ∀ x ∈ s.inputs, x.check = 0
theorem Sav.right {s : Sav} (h : s.check = 0) : s.Right := by
  unfold Sav.check at h
  split at h
  · omega
  · rename_i h1
    split at h
    · omega
    · rename_i h2
      simp only [Bool.or_eq_true, decide_eq_true_eq, not_or] at h1 h2
      split at h
      · rename_i h3
        exact ⟨by omega, by omega, by omega, errs_zero V.check h3, errs_zero Inp.check h⟩
      · rename_i h3; exact absurd h h3
def V.tiny (v : V) : Prop := v.ok ∧ v.size ≤ 1048576 ∧ v.bytes.length ≤ 34000000
structure Sav.Small (s : Sav) : Prop where
  state : ∀ v ∈ s.state, v.tiny
  inp : ∀ x ∈ s.inputs, x.val.tiny
  actor : s.actor.size ≤ 1000000000
/-- no more bytes than before; ok only if it was -/
def Dn (s s' : TS) : Prop := s'.l.length ≤ s.l.length ∧ (s'.ok = true → s.ok = true)
/-- ok only if it was, and bytes were taken -/
def Et (s s' : TS) : Prop := s'.l.length ≤ s.l.length ∧ (s'.ok = true → s.ok = true ∧ s'.l.length < s.l.length)
theorem Dn.refl (s : TS) : Dn s s := ⟨Nat.le_refl _, id⟩
theorem Dn.trans {s s' s'' : TS} (h : Dn s s') (h' : Dn s' s'') : Dn s s'' := ⟨Nat.le_trans h'.1 h.1, fun o => h.2 (h'.2 o)⟩
theorem Et.trans {s s' s'' : TS} (h : Et s s') (h' : Dn s' s'') : Et s s'' := ⟨Nat.le_trans h'.1 h.1, fun o => ⟨(h.2 (h'.2 o)).1, Nat.lt_of_le_of_lt h'.1 (h.2 (h'.2 o)).2⟩⟩
def Sav.out (s : Sav) : List UInt8 := if s.check = 0 then s.bytes else []
def Sav.zero : Sav := ⟨⟨#[]⟩, [], []⟩
end Go.Proofs.Ythgackidonocpaa
namespace Go.Proofs.Ythgackidonocpaa
open Go.RowKit
theorem Sav.check_3 {s : Sav} (h : (decide ((s.actor.size : Int) < 1) || decide ((16 : Int) < (s.actor.size : Int))) = true) : s.check = 3 := by unfold Sav.check; rw [if_pos h]
theorem Sav.check_2 {s : Sav} (h : (decide ((s.actor.size : Int) < 1) || decide ((16 : Int) < (s.actor.size : Int))) = false) (h2 : (decide ((6 : Int) < (s.state.length : Int)) || decide ((2000 : Int) < (s.inputs.length : Int))) = true) : s.check = 2 := by unfold Sav.check; rw [if_neg (by rw [h]; decide), if_pos h2]
theorem Sav.check_r {s : Sav} (h : (decide ((s.actor.size : Int) < 1) || decide ((16 : Int) < (s.actor.size : Int))) = false) (h2 : (decide ((6 : Int) < (s.state.length : Int)) || decide ((2000 : Int) < (s.inputs.length : Int))) = false) : s.check = if errs (s.state.map V.check) = 0 then errs (s.inputs.map Inp.check) else errs (s.state.map V.check) := by unfold Sav.check; rw [if_neg (by rw [h]; decide), if_neg (by rw [h2]; decide)]
theorem Inp.check_bad {x : Inp} (h : x.bad = true) : x.check = 3 := by unfold Inp.check; rw [if_pos h]
theorem Inp.check_3 {x : Inp} (h : x.bad = false) (h3 : x.kind = 3) : x.check = 0 := by unfold Inp.check; rw [if_neg (by rw [h]; decide), if_pos (decide_eq_true h3)]
theorem Inp.check_v {x : Inp} (h : x.bad = false) (h3 : ¬ x.kind = 3) : x.check = x.val.check := by unfold Inp.check; rw [if_neg (by rw [h]; decide), if_neg (by simpa using h3)]
set_option maxRecDepth 100000 in
set_option maxHeartbeats 4000000 in
theorem checkSaved_af (s : Sav) : AF Try.prog 36 [s.t] (· = .lit (.int .i64 s.check)) := by
  have k3 := @Sav.check_3 s
  have k2 := @Sav.check_2 s
  have kr := @Sav.check_r s
  obtain ⟨ac, st, l⟩ := s
  dsimp only at k3 k2 kr
  generalize hck : (Sav.mk ac st l).check = ck at *
  refine af_enter tok Try.func36 Try.ntmps36 Try.results36 rfl (by kernel_rfl) rfl rfl fun F hX => ?_
  cases d1 : decide ((ac.size : Int) < 1)
  rotate_left
  · repeat (first | refine gG ?_ | refine zN1 (fun hlen => ?_) | refine zN2 (fun hlen => ?_) | refine zAl (fun _ => ?_) | refine zBf ?_)
    first | refine zR ?_ | refine zQ ?_
    rw [k3 (by rw [d1]; rfl)]; rfl
  cases d2 : decide ((16 : Int) < (ac.size : Int))
  rotate_left
  · repeat (first | refine gG ?_ | refine zN1 (fun hlen => ?_) | refine zN2 (fun hlen => ?_) | refine zAl (fun _ => ?_) | refine zBf ?_)
    first | refine zR ?_ | refine zQ ?_
    rw [k3 (by rw [d1, d2]; rfl)]; rfl
  have j1 : (decide ((ac.size : Int) < 1) || decide ((16 : Int) < (ac.size : Int))) = false := by rw [d1, d2]; rfl
  cases d3 : decide ((6 : Int) < (st.length : Int))
  rotate_left
  · repeat (first | refine gG ?_ | refine zN1 (fun hlen => ?_) | refine zN2 (fun hlen => ?_) | refine zAl (fun _ => ?_) | refine zBf ?_)
    first | refine zR ?_ | refine zQ ?_
    rw [k2 j1 (by rw [d3]; rfl)]; rfl
  cases d4 : decide ((2000 : Int) < (l.length : Int))
  rotate_left
  · repeat (first | refine gG ?_ | refine zN1 (fun hlen => ?_) | refine zN2 (fun hlen => ?_) | refine zAl (fun _ => ?_) | refine zBf ?_)
    first | refine zR ?_ | refine zQ ?_
    rw [k2 j1 (by rw [d3, d4]; rfl)]; rfl
  have kr := kr j1 (by rw [d3, d4]; rfl)
  clear k3 k2 j1
  repeat (first | refine gG ?_ | refine zN1 (fun hlen => ?_) | refine zN2 (fun hlen => ?_) | refine zAl (fun _ => ?_) | refine zBf ?_)
  refine x_loop [2, 4, 5, 34, 35, 36, 37, 38, 39, 40, 41, 42, 43] (fun k : Nat => [(34, .c (.lit (.int .i64 k)))]) (fun _ => []) (fun k => k ≤ st.length ∧ ∀ x ∈ st.take k, V.check x = 0) (fun k => st.length - k) 0 ⟨Nat.zero_le _, by simp⟩ ⟨rfl, trivial⟩ rfl ?_
  rintro k ⟨hk, hz⟩
  repeat (first | refine gG ?_ | refine zN1 (fun hlen => ?_) | refine zN2 (fun hlen => ?_) | refine zAl (fun _ => ?_) | refine zBx (fun _ => ?_))
  refine x_cond rfl (fun h => ?_) (fun h => ?_)
  · have hk' : k < st.length := by simpa using h
    obtain ⟨a, ha⟩ := nth hk'
    have hs := check_af a
    have he := errs_at V.check hz ha
    have hsn := take_snoc (p := fun x => V.check x = 0) ha hz
    repeat (first | refine gG ?_ | refine zN1 (fun hlen => ?_) | refine zN2 (fun hlen => ?_) | refine zAl (fun _ => ?_) | refine zBx (fun _ => ?_))
    refine zIx (k) (hk') ?_
    repeat (first | refine gG ?_ | refine zN1 (fun hlen => ?_) | refine zN2 (fun hlen => ?_) | refine zAl (fun _ => ?_) | refine zBx (fun _ => ?_))
    refine zEl (V.at ha) (V.ts_len a) ?_
    generalize hca : a.check = ca at *
    obtain ⟨ka, na, ta, la⟩ := a
    repeat (first | refine gG ?_ | refine zN1 (fun hlen => ?_) | refine zN2 (fun hlen => ?_) | refine zAl (fun _ => ?_) | refine zBx (fun _ => ?_))
    refine zCall (hs) ?_
    rintro _ rfl
    cases c1 : decide (ca = 0)
    · have c0 : ¬ ca = 0 := of_decide_eq_false c1
      repeat (first | refine gG ?_ | refine zN1 (fun hlen => ?_) | refine zN2 (fun hlen => ?_) | refine zAl (fun _ => ?_) | refine zBx (fun _ => ?_))
      first | refine zR ?_ | refine zQ ?_
      rw [kr, he c0, if_neg c0]; rfl
    · have c0 : ca = 0 := of_decide_eq_true c1
      repeat (first | refine gG ?_ | refine zN1 (fun hlen => ?_) | refine zN2 (fun hlen => ?_) | refine zAl (fun _ => ?_) | refine zBx (fun _ => ?_))
      exact ⟨k + 1, ⟨hk', hsn c0⟩, by omega, x_wkd 0 ⟨rfl, trivial⟩ rfl (by repeat (first | exact ag_refl | refine ag_upd rfl ?_ | refine ag_at rfl rfl ?_))⟩
  · have hk' : k = st.length := by have : ¬ k < st.length := by simpa using h
                                   omega
    subst hk'
    rw [List.take_length] at hz
    rw [errs_all V.check hz, if_pos rfl] at kr
    repeat (first | refine gG ?_ | refine zN1 (fun hlen => ?_) | refine zN2 (fun hlen => ?_) | refine zAl (fun _ => ?_) | refine zBx (fun _ => ?_))
    refine x_loop [2, 7, 8, 47, 48, 49, 50, 51, 52, 53, 54, 55, 56, 57, 58, 59, 60, 61, 62, 63, 64, 65, 66, 67, 68, 69, 70, 71, 72, 73, 74, 75, 76, 77, 78, 79, 80, 81] (fun k : Nat => [(47, .c (.lit (.int .i64 k)))]) (fun _ => []) (fun k => k ≤ l.length ∧ ∀ x ∈ l.take k, Inp.check x = 0) (fun k => l.length - k) 0 ⟨Nat.zero_le _, by simp⟩ ⟨rfl, trivial⟩ rfl ?_
    rintro k ⟨hk, hz⟩
    repeat (first | refine gG ?_ | refine zN1 (fun hlen => ?_) | refine zN2 (fun hlen => ?_) | refine zAl (fun _ => ?_) | refine zBx (fun _ => ?_))
    refine x_cond rfl (fun h => ?_) (fun h => ?_)
    · have hk' : k < l.length := by simpa using h
      obtain ⟨a, ha⟩ := nth hk'
      have hs := check_af a.val
      have hz3 := isZero_af a.val
      have he := errs_at Inp.check hz ha
      have hsn := take_snoc (p := fun x => Inp.check x = 0) ha hz
      have kb := @Inp.check_bad a
      have k3 := @Inp.check_3 a
      have kv := @Inp.check_v a
      repeat (first | refine gG ?_ | refine zN1 (fun hlen => ?_) | refine zN2 (fun hlen => ?_) | refine zAl (fun _ => ?_) | refine zBx (fun _ => ?_))
      refine zIx (k) (hk') ?_
      repeat (first | refine gG ?_ | refine zN1 (fun hlen => ?_) | refine zN2 (fun hlen => ?_) | refine zAl (fun _ => ?_) | refine zBx (fun _ => ?_))
      refine zEl (flat_at Inp.ts 5 Inp.ts_len ha) (Inp.ts_len a) ?_
      obtain ⟨kd, v⟩ := a
      simp only [Inp.bad] at kb k3 kv
      dsimp only at hs hz3 kb k3 kv
      generalize (Inp.mk kd v).check = ca at *
      generalize v.check = cv at *
      generalize v.isZ = zv at *
      obtain ⟨ka, na, ta, la⟩ := v
      cases e1 : decide (kd < 1)
      rotate_left
      · have kb := kb (by rw [e1]; rfl)
        repeat (first | refine gG ?_ | refine zN1 (fun hlen => ?_) | refine zN2 (fun hlen => ?_) | refine zAl (fun _ => ?_) | refine zBx (fun _ => ?_))
        first | refine zR ?_ | refine zQ ?_
        rw [kr, he (by omega), kb]; rfl
      cases e2 : decide ((3 : Int) < kd)
      rotate_left
      · have kb := kb (by rw [e1, e2]; rfl)
        repeat (first | refine gG ?_ | refine zN1 (fun hlen => ?_) | refine zN2 (fun hlen => ?_) | refine zAl (fun _ => ?_) | refine zBx (fun _ => ?_))
        first | refine zR ?_ | refine zQ ?_
        rw [kr, he (by omega), kb]; rfl
      cases e3 : decide (kd = 3)
      · have kv := kv (by rw [e1, e2, e3]; rfl) (of_decide_eq_false e3)
        repeat (first | refine gG ?_ | refine zN1 (fun hlen => ?_) | refine zN2 (fun hlen => ?_) | refine zAl (fun _ => ?_) | refine zBx (fun _ => ?_))
        refine zCall (hs) ?_
        rintro _ rfl
        cases c1 : decide (cv = 0)
        · have c0 : ¬ cv = 0 := of_decide_eq_false c1
          repeat (first | refine gG ?_ | refine zN1 (fun hlen => ?_) | refine zN2 (fun hlen => ?_) | refine zAl (fun _ => ?_) | refine zBx (fun _ => ?_))
          first | refine zR ?_ | refine zQ ?_
          rw [kr, he (by omega), kv]; rfl
        · have c0 : cv = 0 := of_decide_eq_true c1
          repeat (first | refine gG ?_ | refine zN1 (fun hlen => ?_) | refine zN2 (fun hlen => ?_) | refine zAl (fun _ => ?_) | refine zBx (fun _ => ?_))
          exact ⟨k + 1, ⟨hk', hsn (by omega)⟩, by omega, x_wkd 0 ⟨rfl, trivial⟩ rfl (by repeat (first | exact ag_refl | refine ag_upd rfl ?_ | refine ag_at rfl rfl ?_))⟩
      · cases zv
        · have kb := kb (by rw [e1, e2, e3]; rfl)
          repeat (first | refine gG ?_ | refine zN1 (fun hlen => ?_) | refine zN2 (fun hlen => ?_) | refine zAl (fun _ => ?_) | refine zBx (fun _ => ?_))
          refine zCall (hz3) ?_
          rintro _ rfl
          repeat (first | refine gG ?_ | refine zN1 (fun hlen => ?_) | refine zN2 (fun hlen => ?_) | refine zAl (fun _ => ?_) | refine zBx (fun _ => ?_))
          first | refine zR ?_ | refine zQ ?_
          rw [kr, he (by omega), kb]; rfl
        · have k3 := k3 (by rw [e1, e2, e3]; rfl) (of_decide_eq_true e3)
          repeat (first | refine gG ?_ | refine zN1 (fun hlen => ?_) | refine zN2 (fun hlen => ?_) | refine zAl (fun _ => ?_) | refine zBx (fun _ => ?_))
          refine zCall (hz3) ?_
          rintro _ rfl
          repeat (first | refine gG ?_ | refine zN1 (fun hlen => ?_) | refine zN2 (fun hlen => ?_) | refine zAl (fun _ => ?_) | refine zBx (fun _ => ?_))
          exact ⟨k + 1, ⟨hk', hsn (by omega)⟩, by omega, x_wkd 0 ⟨rfl, trivial⟩ rfl (by repeat (first | exact ag_refl | refine ag_upd rfl ?_ | refine ag_at rfl rfl ?_))⟩
    · have hk' : k = l.length := by have : ¬ k < l.length := by simpa using h
                                    omega
      subst hk'
      rw [List.take_length] at hz
      rw [errs_all Inp.check hz] at kr
      repeat (first | refine gG ?_ | refine zN1 (fun hlen => ?_) | refine zN2 (fun hlen => ?_) | refine zAl (fun _ => ?_) | refine zBx (fun _ => ?_))
      first | refine zR ?_ | refine zQ ?_
      rw [kr]; rfl
set_option maxRecDepth 100000 in
set_option maxHeartbeats 2000000 in
theorem listI_ag (f : FuncId) (enc : Inp → List UInt8) (l : List Inp) (hf : ∀ x ∈ l, ∀ (v : Value) (b : List UInt8), b.length + (enc x).length ≤ 1099511627776 → AG Try.prog f [.own 0 v, .c (.agg (Inp.ts x))] [.row v 5 1 b.length (byts b)] (Grew 5 (b ++ enc x)))
    (v : Value) (b : List UInt8) (hn : l.length < 9223372036854775808) (hb : b.length + (uv l.length ++ l.flatMap enc).length ≤ 1099511627776) :
    AG Try.prog 172 [.own 0 v, .c (inpRow l), .fn (.func f) []] [.row v 5 1 b.length (byts b)] (Grew 5 (b ++ (uv l.length ++ l.flatMap enc))) := by
  have hc := nat_ag v b l.length hn (by omega)
  refine ag_enter 1 tok Try.func172 Try.ntmps172 Try.results172 rfl (by kernel_rfl) rfl fun F => ?_
  repeat (first | refine gG ?_ | refine zN1 (fun hlen => ?_) | refine zN2 (fun hlen => ?_) | refine zAl (fun _ => ?_))
  refine zCallG [0] hc ?_
  rintro _ _ ⟨v', rfl, rfl⟩
  refine ⟨.own 0 v', _, re_own, rfl, rfl, ?_⟩
  repeat (first | refine gG ?_ | refine zN1 (fun hlen => ?_) | refine zN2 (fun hlen => ?_) | refine zAl (fun _ => ?_))
  refine x_loop [0, 8, 15, 16, 17, 18, 19, 20, 21, 22, 23] (fun y : Nat × Value => [(15, .c (.lit (.int .i64 (y.1 : Nat)))), (0, .own 0 y.2)]) (fun y => [.row y.2 5 1 (b ++ (uv l.length ++ (l.take y.1).flatMap enc)).length (byts (b ++ (uv l.length ++ (l.take y.1).flatMap enc)))])
    (fun y => y.1 ≤ l.length) (fun y => l.length - y.1) (0, v') (Nat.zero_le _) ⟨rfl, rfl, trivial⟩ (by simp) ?_
  rintro ⟨k, u⟩ hk
  dsimp only at hk ⊢
  repeat (first | refine gG ?_ | refine zN1 (fun hlen => ?_) | refine zN2 (fun hlen => ?_) | refine zAl (fun _ => ?_))
  refine x_cond rfl (fun h => ?_) (fun h => ?_)
  · have hk' : k < l.length := by simpa using h
    obtain ⟨a, ha⟩ := nth hk'
    have hsn := flat_snoc' enc ha
    have hle : ((l.take (k + 1)).flatMap enc).length ≤ (l.flatMap enc).length := by
      have := congrArg (fun r => (List.flatMap enc r).length) (List.take_append_drop (k + 1) l)
      simp only [List.flatMap_append, List.length_append] at this
      omega
    have hca := hf a (List.mem_of_getElem? ha) u (b ++ (uv l.length ++ (l.take k).flatMap enc)) (by
      rw [hsn] at hle
      simp only [List.length_append] at hle hb ⊢
      omega)
    repeat (first | refine gG ?_ | refine zN1 (fun hlen => ?_) | refine zN2 (fun hlen => ?_) | refine zAl (fun _ => ?_))
    refine zIx (k) (hk') ?_
    repeat (first | refine gG ?_ | refine zN1 (fun hlen => ?_) | refine zN2 (fun hlen => ?_) | refine zAl (fun _ => ?_))
    refine zEl (flat_at Inp.ts 5 Inp.ts_len ha) (Inp.ts_len a) ?_
    obtain ⟨kd, ⟨ka, na, ta, la⟩⟩ := a
    repeat (first | refine gG ?_ | refine zN1 (fun hlen => ?_) | refine zN2 (fun hlen => ?_) | refine zAl (fun _ => ?_))
    refine zCallG [0] hca ?_
    rintro _ _ ⟨u', rfl, rfl⟩
    refine ⟨.own 0 u', _, re_own, rfl, rfl, ?_⟩
    repeat (first | refine gG ?_ | refine zN1 (fun hlen => ?_) | refine zN2 (fun hlen => ?_) | refine zAl (fun _ => ?_))
    exact ⟨(k + 1, u'), hk', by simp only; omega, x_wkd 1 ⟨rfl, rfl, trivial⟩ (by simp only [hsn, List.append_assoc]; rfl) (by repeat (first | exact ag_refl | refine ag_upd rfl ?_ | refine ag_at rfl rfl ?_))⟩
  · have hk' : k = l.length := by have : ¬ k < l.length := by simpa using h
                                  omega
    subst hk'
    repeat (first | refine gG ?_ | refine zN1 (fun hlen => ?_) | refine zN2 (fun hlen => ?_) | refine zAl (fun _ => ?_))
    refine zG ?_
    refine ⟨_, rfl, ?_⟩
    rw [List.take_length]
set_option maxRecDepth 100000 in
set_option maxHeartbeats 4000000 in
theorem appendInput_ag (x : Inp) (hok : x.val.ok) (v : Value) (b : List UInt8) (hb : b.length + x.bytes.length ≤ 1099511627776) :
    AG Try.prog 173 [.own 0 v, .c (.agg x.ts)] [.row v 5 1 b.length (byts b)] (Grew 5 (b ++ x.bytes)) := by
  obtain ⟨k, y⟩ := x
  simp only [Inp.bytes] at hb ⊢
  by_cases hk : k = 3
  · rw [if_pos hk] at hb ⊢
    have d1 : decide (k = 3) = true := decide_eq_true hk
    obtain ⟨ky, ny, ty, ly⟩ := y
    refine ag_enter 1 tok Try.func173 Try.ntmps173 Try.results173 rfl (by kernel_rfl) rfl fun F => ?_
    repeat (first | refine gX ?_ | refine zBf ?_ | refine zAp (fun _ => ?_))
    refine lo_conv tok rfl rfl rfl rfl rfl ?_
    repeat (first | refine gG ?_ | refine zBf ?_ | refine zAp (fun _ => ?_))
    refine zG ?_
    exact ⟨_, rfl, by rw [byts_app, List.length_append, ← kb_T]; rfl⟩
  · rw [if_neg hk] at hb ⊢
    simp only [List.length_cons] at hb
    have d1 : decide (k = 3) = false := decide_eq_false hk
    have hi1 : ∀ v1, AG Try.prog 74 [.own 0 v1, .c y.t] [.row v1 5 1 (b.length + 1) (byts b ++ [.lit (.int .u8 (IntKind.u8.wrap k))])] (Grew 5 (b ++ (kb k :: y.bytes))) := by
      intro v1
      have h := appendValue_ag y hok v1 (b ++ [kb k]) (by simp only [List.length_append, List.length_cons, List.length_nil]; omega)
      rw [← kb_T]
      simpa [byts] using h
    generalize y.bytes = yb at *
    obtain ⟨ky, ny, ty, ly⟩ := y
    refine ag_enter 1 tok Try.func173 Try.ntmps173 Try.results173 rfl (by kernel_rfl) rfl fun F => ?_
    repeat (first | refine gX ?_ | refine zBf ?_ | refine zAp (fun _ => ?_))
    refine lo_conv tok rfl rfl rfl rfl rfl ?_
    repeat (first | refine gG ?_ | refine zBf ?_ | refine zAp (fun _ => ?_))
    refine zCallG [0] (hi1 _) ?_
    rintro _ _ ⟨v', rfl, rfl⟩
    refine ⟨.own 0 v', _, re_own, rfl, rfl, ?_⟩
    repeat (first | refine gG ?_ | refine zBx (fun _ => ?_) | refine zAp (fun _ => ?_))
    refine zG ?_
    exact ⟨_, rfl, rfl⟩
theorem Inp.bytes_le {x : Inp} (h : x.val.tiny) : x.bytes.length ≤ 34000001 := by
  have := h.2.2
  unfold Inp.bytes
  split <;> simp only [List.length_cons, List.length_nil] <;> omega
theorem flat_le {α : Type} (f : α → List UInt8) (B : Nat) : ∀ {l : List α}, (∀ x ∈ l, (f x).length ≤ B) → (l.flatMap f).length ≤ l.length * B
  | [], _ => by simp
  | a :: l, h => by
    have h1 := h a (by simp)
    have h2 := flat_le f B (l := l) fun x hx => h x (List.mem_cons_of_mem _ hx)
    simp only [List.flatMap_cons, List.length_append, List.length_cons, Nat.succ_mul]
    omega
theorem Sav.bytes_le {s : Sav} (hs : s.Small) (h : s.Right) : s.bytes.length ≤ 68300000000 := by
  have h1 := flat_le V.bytes 34000000 (l := s.state) fun v hv => (hs.state v hv).2.2
  have h2 := flat_le Inp.bytes 34000001 (l := s.inputs) fun x hx => Inp.bytes_le (hs.inp x hx)
  have h3 := h.actor
  have h4 := h.states
  have h5 := h.inps
  have u1 := uv_len64 (n := s.actor.size) (by omega)
  have u2 := uv_len64 (n := s.state.length) (by omega)
  have u3 := uv_len64 (n := s.inputs.length) (by omega)
  have h6 : s.state.length * 34000000 ≤ 6 * 34000000 := Nat.mul_le_mul_right _ h4
  have h7 : s.inputs.length * 34000001 ≤ 2000 * 34000001 := Nat.mul_le_mul_right _ h5
  simp only [Sav.bytes, List.length_append, sz_len]
  omega
set_option maxRecDepth 100000 in
set_option maxHeartbeats 4000000 in
theorem appendSaved_ag (s : Sav) (hst : ∀ v ∈ s.state, v.ok) (hin : ∀ x ∈ s.inputs, x.val.ok) (h1 : s.state.length ≤ 6) (h2 : s.inputs.length ≤ 2000) (v : Value) (b : List UInt8) (hb : b.length + s.bytes.length ≤ 1099511627776) :
    AG Try.prog 98 [.own 0 v, .c s.t] [.row v 5 1 b.length (byts b)] (Grew 5 (b ++ s.bytes)) := by
  obtain ⟨ac, st, l⟩ := s
  dsimp only at hst hin h1 h2
  have e0 : (Sav.mk ac st l).bytes = uv ac.size ++ (ac.data.toList ++ (uv st.length ++ (st.flatMap V.bytes ++ (uv l.length ++ l.flatMap Inp.bytes)))) := rfl
  rw [e0] at hb ⊢
  simp only [List.length_append, sz_len] at hb
  have c1 := text_ag v b ac (by omega)
  have c2 := fun v2 => listV_ag 74 V.bytes st (fun x hx v b hb => appendValue_ag x (hst x hx) v b hb) v2 (b ++ (uv ac.size ++ ac.data.toList)) (by omega) (by simp only [List.length_append, sz_len]; omega)
  have c3 := fun v3 => listI_ag 173 Inp.bytes l (fun x hx v b hb => appendInput_ag x (hin x hx) v b hb) v3 (b ++ (uv ac.size ++ ac.data.toList) ++ (uv st.length ++ st.flatMap V.bytes)) (by omega) (by simp only [List.length_append, sz_len]; omega)
  refine ag_enter 1 tok Try.func98 Try.ntmps98 Try.results98 rfl (by kernel_rfl) rfl fun F => ?_
  repeat (first | refine gG ?_ | refine zBf ?_)
  refine ac_draw [0, 0, 0, 2, 0, 0, 2, 0, 0, 2, 1] [0, 1, 2, 4, 5, 7, 8, 3, 6, 9, 10] (by kernel_rfl) (by kernel_rfl) ?_
  refine gW ?_
  apply w_l; (focus exact rfl); (focus exact rfl); (refine zCallG [0] c1 ?_; rintro _ _ ⟨v', rfl, rfl⟩; refine ⟨.own 0 v', _, re_own, rfl, rfl, ?_⟩)
  apply w_l; (focus exact rfl); (focus exact rfl); (refine zCallG [0] (c2 _) ?_; rintro _ _ ⟨v', rfl, rfl⟩; refine ⟨.own 0 v', _, re_own, rfl, rfl, ?_⟩)
  apply w_l; (focus exact rfl); (focus exact rfl); (refine zCallG [0] (c3 _) ?_; rintro _ _ ⟨v', rfl, rfl⟩; refine ⟨.own 0 v', _, re_own, rfl, rfl, ?_⟩)
  refine gW ?_
  refine w_nil ?_
  repeat (first | refine gG ?_ | refine zBx (fun _ => ?_))
  refine zG ?_
  exact ⟨_, rfl, by simp only [List.append_assoc]⟩
end Go.Proofs.Ythgackidonocpaa
