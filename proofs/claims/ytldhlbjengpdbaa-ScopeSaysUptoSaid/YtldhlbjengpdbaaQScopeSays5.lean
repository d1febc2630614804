/-
  Texts of this proof, part 5: Ab26 Ab20 Ab22 Ab23 Ab24 Ab29 Ab30 Tab Tv Tvp Tsm Ty Tex.
-/
import Derived.Test.YtldhlbjengpdbaaQScopeSays4
import Derived.Laws.IdiomRangeMap
import Derived.Laws.Strings2
import Derived.Lib.AppendStr
import Derived.Lib.MinMax
import Derived.Test.YtldhlbjengpdbaaProg
namespace Go.Proofs.Ytldhlbjengpdbaa
open Go.RowKit
structure Hold (G : Prop) : Prop where
  out : G
/-- operations and control, asq far asq they are plain -/
theorem gG {G G' : Prop} (h : G') (e : Hold G' → G := by
    intro h
    first | refine zNil ?_ | refine zOp ?_ | refine zOpn ?_ | refine zNo ?_ | refine zNon ?_ | refine zUn ?_ | refine zUnn ?_ | refine zYes ?_ | refine zYesn ?_ | (refine zkL ?_; first | refine zL1 ?_ | refine zL2 ?_ | refine zL3 ?_ | refine zLp ?_) | refine zM ?_ | (refine zkF ?_; first | refine zF1 ?_ | refine zF2 ?_ | refine zF3 ?_) | refine zA ?_ | (refine zkB ?_; first | refine zC5 ?_ | refine zC6 ?_ | refine zC1 ?_ | refine zC2 ?_ | refine zC3 ?_ | refine zC4 ?_ | refine zS5 ?_ | refine zS6 ?_ | refine zS1 ?_ | refine zS2 ?_ | refine zS3 ?_ | refine zS4 ?_ | refine zInc ?_ | refine zQ1 ?_ | refine zQ2 ?_ | refine zQ3 ?_ | refine zQ4 ?_ | refine zQ5 ?_ | refine zQ6 ?_) | (refine zkI ?_; first | refine zN3 ?_ | refine zN4 ?_) | refine zS ?_ | refine zPt ?_ | refine zPf ?_ | refine zE ?_ | refine zEA ?_ | refine zNot ?_ | refine zBd ?_ | refine zFn ?_ | refine zK1 ?_ | refine zK2 ?_ | refine zBs ?_ | refine ac_seq ?_ | refine ac_block ?_ | refine ac_region ?_ | refine ac_skip ?_ | refine ac_exit ?_ | refine ac_ret ?_ | refine zT ?_ | refine zF ?_
    repeat (first | refine zNil ?_ | refine zOp ?_ | refine zOpn ?_ | refine zNo ?_ | refine zNon ?_ | refine zUn ?_ | refine zUnn ?_ | refine zYes ?_ | refine zYesn ?_ | (refine zkL ?_; first | refine zL1 ?_ | refine zL2 ?_ | refine zL3 ?_ | refine zLp ?_) | refine zM ?_ | (refine zkF ?_; first | refine zF1 ?_ | refine zF2 ?_ | refine zF3 ?_) | refine zA ?_ | (refine zkB ?_; first | refine zC5 ?_ | refine zC6 ?_ | refine zC1 ?_ | refine zC2 ?_ | refine zC3 ?_ | refine zC4 ?_ | refine zS5 ?_ | refine zS6 ?_ | refine zS1 ?_ | refine zS2 ?_ | refine zS3 ?_ | refine zS4 ?_ | refine zInc ?_ | refine zQ1 ?_ | refine zQ2 ?_ | refine zQ3 ?_ | refine zQ4 ?_ | refine zQ5 ?_ | refine zQ6 ?_) | (refine zkI ?_; first | refine zN3 ?_ | refine zN4 ?_) | refine zS ?_ | refine zPt ?_ | refine zPf ?_ | refine zE ?_ | refine zEA ?_ | refine zNot ?_ | refine zBd ?_ | refine zFn ?_ | refine zK1 ?_ | refine zK2 ?_ | refine zBs ?_ | refine ac_seq ?_ | refine ac_block ?_ | refine ac_region ?_ | refine ac_skip ?_ | refine ac_exit ?_ | refine ac_ret ?_ | refine zT ?_ | refine zF ?_)
    exact h.out) : G := e ⟨h⟩
/-- the same, but no rows that are written out -/
theorem gX {G G' : Prop} (h : G') (e : Hold G' → G := by
    intro h
    first | refine zNil ?_ | refine zOp ?_ | refine zOpn ?_ | refine zNo ?_ | refine zNon ?_ | refine zUn ?_ | refine zUnn ?_ | refine zYes ?_ | refine zYesn ?_ | (refine zkL ?_; first | refine zL1 ?_ | refine zL2 ?_ | refine zL3 ?_ | refine zLp ?_) | refine zM ?_ | (refine zkF ?_; first | refine zF1 ?_ | refine zF2 ?_ | refine zF3 ?_) | refine zA ?_ | (refine zkB ?_; first | refine zC5 ?_ | refine zC6 ?_ | refine zC1 ?_ | refine zC2 ?_ | refine zC3 ?_ | refine zC4 ?_ | refine zS5 ?_ | refine zS6 ?_ | refine zS1 ?_ | refine zS2 ?_ | refine zS3 ?_ | refine zS4 ?_ | refine zInc ?_ | refine zQ1 ?_ | refine zQ2 ?_ | refine zQ3 ?_ | refine zQ4 ?_ | refine zQ5 ?_ | refine zQ6 ?_) | (refine zkI ?_; first | refine zN3 ?_ | refine zN4 ?_) | refine zS ?_ | refine zPt ?_ | refine zPf ?_ | refine zE ?_ | refine zEA ?_ | refine zNot ?_ | refine zBd ?_ | refine zFn ?_ | refine zK1 ?_ | refine zK2 ?_ | refine ac_seq ?_ | refine ac_block ?_ | refine ac_region ?_ | refine ac_skip ?_ | refine ac_exit ?_ | refine ac_ret ?_ | refine zT ?_ | refine zF ?_
    repeat (first | refine zNil ?_ | refine zOp ?_ | refine zOpn ?_ | refine zNo ?_ | refine zNon ?_ | refine zUn ?_ | refine zUnn ?_ | refine zYes ?_ | refine zYesn ?_ | (refine zkL ?_; first | refine zL1 ?_ | refine zL2 ?_ | refine zL3 ?_ | refine zLp ?_) | refine zM ?_ | (refine zkF ?_; first | refine zF1 ?_ | refine zF2 ?_ | refine zF3 ?_) | refine zA ?_ | (refine zkB ?_; first | refine zC5 ?_ | refine zC6 ?_ | refine zC1 ?_ | refine zC2 ?_ | refine zC3 ?_ | refine zC4 ?_ | refine zS5 ?_ | refine zS6 ?_ | refine zS1 ?_ | refine zS2 ?_ | refine zS3 ?_ | refine zS4 ?_ | refine zInc ?_ | refine zQ1 ?_ | refine zQ2 ?_ | refine zQ3 ?_ | refine zQ4 ?_ | refine zQ5 ?_ | refine zQ6 ?_) | (refine zkI ?_; first | refine zN3 ?_ | refine zN4 ?_) | refine zS ?_ | refine zPt ?_ | refine zPf ?_ | refine zE ?_ | refine zEA ?_ | refine zNot ?_ | refine zBd ?_ | refine zFn ?_ | refine zK1 ?_ | refine zK2 ?_ | refine ac_seq ?_ | refine ac_block ?_ | refine ac_region ?_ | refine ac_skip ?_ | refine ac_exit ?_ | refine ac_ret ?_ | refine zT ?_ | refine zF ?_)
    exact h.out) : G := e ⟨h⟩
/-- operations alone -/
theorem gO {G G' : Prop} (h : G') (e : Hold G' → G := by
    intro h
    first | refine zNil ?_ | refine zOp ?_ | refine zOpn ?_ | refine zNo ?_ | refine zNon ?_ | refine zUn ?_ | refine zUnn ?_ | refine zYes ?_ | refine zYesn ?_ | (refine zkL ?_; first | refine zL1 ?_ | refine zL2 ?_ | refine zL3 ?_ | refine zLp ?_) | refine zM ?_ | (refine zkF ?_; first | refine zF1 ?_ | refine zF2 ?_ | refine zF3 ?_) | refine zA ?_ | (refine zkB ?_; first | refine zC5 ?_ | refine zC6 ?_ | refine zC1 ?_ | refine zC2 ?_ | refine zC3 ?_ | refine zC4 ?_ | refine zS5 ?_ | refine zS6 ?_ | refine zS1 ?_ | refine zS2 ?_ | refine zS3 ?_ | refine zS4 ?_ | refine zInc ?_ | refine zQ1 ?_ | refine zQ2 ?_ | refine zQ3 ?_ | refine zQ4 ?_ | refine zQ5 ?_ | refine zQ6 ?_) | (refine zkI ?_; first | refine zN3 ?_ | refine zN4 ?_) | refine zS ?_ | refine zPt ?_ | refine zPf ?_ | refine zE ?_ | refine zEA ?_ | refine zNot ?_ | refine zBd ?_ | refine zFn ?_ | refine zK1 ?_ | refine zK2 ?_ | refine zBs ?_
    repeat (first | refine zNil ?_ | refine zOp ?_ | refine zOpn ?_ | refine zNo ?_ | refine zNon ?_ | refine zUn ?_ | refine zUnn ?_ | refine zYes ?_ | refine zYesn ?_ | (refine zkL ?_; first | refine zL1 ?_ | refine zL2 ?_ | refine zL3 ?_ | refine zLp ?_) | refine zM ?_ | (refine zkF ?_; first | refine zF1 ?_ | refine zF2 ?_ | refine zF3 ?_) | refine zA ?_ | (refine zkB ?_; first | refine zC5 ?_ | refine zC6 ?_ | refine zC1 ?_ | refine zC2 ?_ | refine zC3 ?_ | refine zC4 ?_ | refine zS5 ?_ | refine zS6 ?_ | refine zS1 ?_ | refine zS2 ?_ | refine zS3 ?_ | refine zS4 ?_ | refine zInc ?_ | refine zQ1 ?_ | refine zQ2 ?_ | refine zQ3 ?_ | refine zQ4 ?_ | refine zQ5 ?_ | refine zQ6 ?_) | (refine zkI ?_; first | refine zN3 ?_ | refine zN4 ?_) | refine zS ?_ | refine zPt ?_ | refine zPf ?_ | refine zE ?_ | refine zEA ?_ | refine zNot ?_ | refine zBd ?_ | refine zFn ?_ | refine zK1 ?_ | refine zK2 ?_ | refine zBs ?_)
    exact h.out) : G := e ⟨h⟩
/-- operations of a region that draws, asq long asq they only look -/
theorem gW {G G' : Prop} (h : G') (e : Hold G' → G := by
    intro h
    first | (apply w_q; (focus exact rfl); (focus exact rfl); focus (intro _; (first | (refine zkL ?_; first | refine zL1 ?_ | refine zL2 ?_ | refine zL3 ?_ | refine zLp ?_) | refine zM ?_ | (refine zkF ?_; first | refine zF1 ?_ | refine zF2 ?_ | refine zF3 ?_) | refine zA ?_ | (refine zkB ?_; first | refine zC5 ?_ | refine zC6 ?_ | refine zC1 ?_ | refine zC2 ?_ | refine zC3 ?_ | refine zC4 ?_ | refine zS5 ?_ | refine zS6 ?_ | refine zS1 ?_ | refine zS2 ?_ | refine zS3 ?_ | refine zS4 ?_ | refine zInc ?_ | refine zQ1 ?_ | refine zQ2 ?_ | refine zQ3 ?_ | refine zQ4 ?_ | refine zQ5 ?_ | refine zQ6 ?_) | (refine zkI ?_; first | refine zN3 ?_ | refine zN4 ?_) | refine zPt ?_ | refine zPf ?_ | refine zE ?_ | refine zEA ?_ | refine zNot ?_ | refine zBd ?_ | refine zBs ?_ | refine zFn ?_ | refine zK1 ?_ | refine zK2 ?_ | (refine zkI ?_; first | refine zN1 (fun _ => ?_) | refine zN2 (fun _ => ?_))); exact det_refl)) | (apply w_p; (focus exact rfl); (focus exact rfl); focus (intro _; (first | (refine zkL ?_; first | refine zL1 ?_ | refine zL2 ?_ | refine zL3 ?_ | refine zLp ?_) | refine zM ?_ | (refine zkF ?_; first | refine zF1 ?_ | refine zF2 ?_ | refine zF3 ?_) | refine zA ?_ | (refine zkB ?_; first | refine zC5 ?_ | refine zC6 ?_ | refine zC1 ?_ | refine zC2 ?_ | refine zC3 ?_ | refine zC4 ?_ | refine zS5 ?_ | refine zS6 ?_ | refine zS1 ?_ | refine zS2 ?_ | refine zS3 ?_ | refine zS4 ?_ | refine zInc ?_ | refine zQ1 ?_ | refine zQ2 ?_ | refine zQ3 ?_ | refine zQ4 ?_ | refine zQ5 ?_ | refine zQ6 ?_) | (refine zkI ?_; first | refine zN3 ?_ | refine zN4 ?_) | refine zPt ?_ | refine zPf ?_ | refine zE ?_ | refine zEA ?_ | refine zNot ?_ | refine zBd ?_ | refine zBs ?_ | refine zFn ?_ | refine zK1 ?_ | refine zK2 ?_ | (refine zkI ?_; first | refine zN1 (fun _ => ?_) | refine zN2 (fun _ => ?_))); exact det_refl)) | (apply w_un; (focus exact rfl); (focus exact rfl); (focus exact rfl); (focus exact rfl)) | (apply w_no; (focus exact rfl); (focus exact rfl); (focus exact rfl); (focus exact rfl); focus (first | rfl | assumption | exact neg_t (by assumption) | exact neg_f (by assumption))) | (apply w_qg; (focus exact rfl); (focus exact rfl); (focus exact rfl); (focus exact rfl); (focus (first | rfl | assumption | exact neg_t (by assumption) | exact neg_f (by assumption))); (focus (intro _; (first | (refine zkL ?_; first | refine zL1 ?_ | refine zL2 ?_ | refine zL3 ?_ | refine zLp ?_) | refine zM ?_ | (refine zkF ?_; first | refine zF1 ?_ | refine zF2 ?_ | refine zF3 ?_) | refine zA ?_ | (refine zkB ?_; first | refine zC5 ?_ | refine zC6 ?_ | refine zC1 ?_ | refine zC2 ?_ | refine zC3 ?_ | refine zC4 ?_ | refine zS5 ?_ | refine zS6 ?_ | refine zS1 ?_ | refine zS2 ?_ | refine zS3 ?_ | refine zS4 ?_ | refine zInc ?_ | refine zQ1 ?_ | refine zQ2 ?_ | refine zQ3 ?_ | refine zQ4 ?_ | refine zQ5 ?_ | refine zQ6 ?_) | (refine zkI ?_; first | refine zN3 ?_ | refine zN4 ?_) | refine zPt ?_ | refine zPf ?_ | refine zE ?_ | refine zEA ?_ | refine zNot ?_ | refine zBd ?_ | refine zBs ?_ | refine zFn ?_ | refine zK1 ?_ | refine zK2 ?_ | (refine zkI ?_; first | refine zN1 (fun _ => ?_) | refine zN2 (fun _ => ?_))); exact det_refl)))
    repeat (first | (apply w_q; (focus exact rfl); (focus exact rfl); focus (intro _; (first | (refine zkL ?_; first | refine zL1 ?_ | refine zL2 ?_ | refine zL3 ?_ | refine zLp ?_) | refine zM ?_ | (refine zkF ?_; first | refine zF1 ?_ | refine zF2 ?_ | refine zF3 ?_) | refine zA ?_ | (refine zkB ?_; first | refine zC5 ?_ | refine zC6 ?_ | refine zC1 ?_ | refine zC2 ?_ | refine zC3 ?_ | refine zC4 ?_ | refine zS5 ?_ | refine zS6 ?_ | refine zS1 ?_ | refine zS2 ?_ | refine zS3 ?_ | refine zS4 ?_ | refine zInc ?_ | refine zQ1 ?_ | refine zQ2 ?_ | refine zQ3 ?_ | refine zQ4 ?_ | refine zQ5 ?_ | refine zQ6 ?_) | (refine zkI ?_; first | refine zN3 ?_ | refine zN4 ?_) | refine zPt ?_ | refine zPf ?_ | refine zE ?_ | refine zEA ?_ | refine zNot ?_ | refine zBd ?_ | refine zBs ?_ | refine zFn ?_ | refine zK1 ?_ | refine zK2 ?_ | (refine zkI ?_; first | refine zN1 (fun _ => ?_) | refine zN2 (fun _ => ?_))); exact det_refl)) | (apply w_p; (focus exact rfl); (focus exact rfl); focus (intro _; (first | (refine zkL ?_; first | refine zL1 ?_ | refine zL2 ?_ | refine zL3 ?_ | refine zLp ?_) | refine zM ?_ | (refine zkF ?_; first | refine zF1 ?_ | refine zF2 ?_ | refine zF3 ?_) | refine zA ?_ | (refine zkB ?_; first | refine zC5 ?_ | refine zC6 ?_ | refine zC1 ?_ | refine zC2 ?_ | refine zC3 ?_ | refine zC4 ?_ | refine zS5 ?_ | refine zS6 ?_ | refine zS1 ?_ | refine zS2 ?_ | refine zS3 ?_ | refine zS4 ?_ | refine zInc ?_ | refine zQ1 ?_ | refine zQ2 ?_ | refine zQ3 ?_ | refine zQ4 ?_ | refine zQ5 ?_ | refine zQ6 ?_) | (refine zkI ?_; first | refine zN3 ?_ | refine zN4 ?_) | refine zPt ?_ | refine zPf ?_ | refine zE ?_ | refine zEA ?_ | refine zNot ?_ | refine zBd ?_ | refine zBs ?_ | refine zFn ?_ | refine zK1 ?_ | refine zK2 ?_ | (refine zkI ?_; first | refine zN1 (fun _ => ?_) | refine zN2 (fun _ => ?_))); exact det_refl)) | (apply w_un; (focus exact rfl); (focus exact rfl); (focus exact rfl); (focus exact rfl)) | (apply w_no; (focus exact rfl); (focus exact rfl); (focus exact rfl); (focus exact rfl); focus (first | rfl | assumption | exact neg_t (by assumption) | exact neg_f (by assumption))) | (apply w_qg; (focus exact rfl); (focus exact rfl); (focus exact rfl); (focus exact rfl); (focus (first | rfl | assumption | exact neg_t (by assumption) | exact neg_f (by assumption))); (focus (intro _; (first | (refine zkL ?_; first | refine zL1 ?_ | refine zL2 ?_ | refine zL3 ?_ | refine zLp ?_) | refine zM ?_ | (refine zkF ?_; first | refine zF1 ?_ | refine zF2 ?_ | refine zF3 ?_) | refine zA ?_ | (refine zkB ?_; first | refine zC5 ?_ | refine zC6 ?_ | refine zC1 ?_ | refine zC2 ?_ | refine zC3 ?_ | refine zC4 ?_ | refine zS5 ?_ | refine zS6 ?_ | refine zS1 ?_ | refine zS2 ?_ | refine zS3 ?_ | refine zS4 ?_ | refine zInc ?_ | refine zQ1 ?_ | refine zQ2 ?_ | refine zQ3 ?_ | refine zQ4 ?_ | refine zQ5 ?_ | refine zQ6 ?_) | (refine zkI ?_; first | refine zN3 ?_ | refine zN4 ?_) | refine zPt ?_ | refine zPf ?_ | refine zE ?_ | refine zEA ?_ | refine zNot ?_ | refine zBd ?_ | refine zBs ?_ | refine zFn ?_ | refine zK1 ?_ | refine zK2 ?_ | (refine zkI ?_; first | refine zN1 (fun _ => ?_) | refine zN2 (fun _ => ?_))); exact det_refl))))
    exact h.out) : G := e ⟨h⟩
end Go.Proofs.Ytldhlbjengpdbaa
namespace Go.Proofs.Ytldhlbjengpdbaa
open Go.RowKit
theorem HeapOk.take {F : Frm} {M : Mm} {hp : List Blk} {w : World} (h : HeapOk F M hp w) (k : Nat) : HeapOk F M (hp.take k) w := by
  have hg : ∀ (i : Nat) (x : Blk), (hp.take k)[i]? = some x → hp[i]? = some x := by
    intro i x hx
    rw [List.getElem?_take] at hx
    split at hx
    · exact hx
    · cases hx
  exact ⟨h.mem, h.ext, h.frm, fun i x hx => h.at_ i x (hg i x hx), fun i j x y b hx hy => h.sep i j x y b (hg i x hx) (hg j y hy), fun i x b hx => h.out i x b (hg i x hx)⟩
/-- the function, given values that read so and blocks of the caller's own, returns a value that reads so, the blocks turned -/
def AG (P : Program) (f : FuncId) (asq : List AV) (hs : List Blk) (R : AV → List Blk → Prop) : Prop :=
  Enters P f ∧ ∀ (F : Frm) (M : Mm) (w : World) (vs : List Value), HeapOk F M hs w → RAs M asq vs →
    Calls P f vs.toArray w fun e w' => ∃ v r hs' M', e = .returned v ∧ R r hs' ∧ Ext F.may M M' ∧ HeapOk F M' hs' w' ∧ RA M' r v
theorem AG.imp {P : Program} {f : FuncId} {asq : List AV} {hs : List Blk} {R R' : AV → List Blk → Prop} (h : AG P f asq hs R) (hi : ∀ r hs, R r hs → R' r hs) : AG P f asq hs R' :=
  ⟨h.1, fun F M w vs hM hv => (h.2 F M w vs hM hv).mono fun _ _ ⟨v, r, hs', M', h1, h2, h3⟩ => ⟨v, r, hs', M', h1, hi r hs' h2, h3⟩⟩
/-- the end of such a function: the first k blocks are handed back -/
structure FinG (L : Tab) (res : List ResultVar) (k : Nat) (R : AV → List Blk → Prop) (e : Exit) (σ : AS) : Prop where
  out : (e = .normal ∨ e = .ret) ∧ ∃ vs, OutsA L σ res vs ∧ R (outA vs) (σ.hp.take k)
section
variable {P : Program} {F : Frm} {L : Tab}
theorem ag_enter {f : FuncId} {fn : Func} {c : Code} {asq : List AV} {hs : List Blk} {R : AV → List Blk → Prop} {N : Nat} {res : List ResultVar} (k : Nat) (hL : TabOk P L) (hf : P.funcs[f]? = some fn) (hNt : fn.ntmps = N) (hres : fn.results = res.toArray) (hb : fn.body = some c) (hn : (fn.name == "runtime.NumGoroutine") = false) (hN : Nat.ble asq.length N = true)
    (h : ∀ F, AC P F c (FinG L res k R) ⟨initT N asq, hs, N⟩) : AG P f asq hs R := by
  refine ⟨⟨fn, hf, hn, by rw [hb]; rfl⟩, fun F M w vs hh hav => ?_⟩
  have hlen := hav.len
  have hNl := Nat.le_of_ble_eq_true hN
  refine calls_of_wp hf hb (wp_mono ((h ⟨F.w0, F.X, M, F.G, F.GX⟩).out M _ w ⟨?_, ?_, rfl, ⟨hh.mem, Ext.refl _ _, ⟨hh.frm.os, hh.frm.tape, hh.frm.output, hh.frm.size, hh.frm.block⟩, hh.at_, hh.sep, hh.out⟩⟩) ?_)
  · intro i
    simp only [initT]
    by_cases hi : i < asq.length
    · have : Nat.blt i N = true := Nat.ble_eq_true_of_le (by omega)
      rw [this, cond_true]
      have h1 : asq[i]? = some asq[i] := List.getElem?_eq_getElem hi
      obtain ⟨x, hx, hra⟩ := hav.get h1
      rw [List.getD_eq_getElem?_getD, h1]
      have h2 : i < vs.length := by omega
      have h3 : vs[i] = x := by rw [List.getElem?_eq_getElem h2] at hx; injection hx
      simp [Array.getD_eq_getD_getElem?, Array.getElem?_append, h2, h3]
      exact hra
    · have h1 : asq.getD i (.c (.lit undef)) = .c (.lit undef) := by
        rw [List.getD_eq_getElem?_getD, List.getElem?_eq_none (by omega)]; rfl
      rw [h1]
      have h2 : ¬ i < vs.length := by omega
      have h3 : (vs.toArray ++ Array.replicate (fn.ntmps - vs.toArray.size) undef).getD i undef = undef := by
        simp [Array.getD_eq_getD_getElem?, Array.getElem?_append, h2, Array.getElem?_replicate]
        split <;> rfl
      rw [h3]
      cases Nat.blt i N <;> simp only [cond_true, cond_false, RA, RT]
  · simp [hNt]; omega
  · rintro e' a' w' ⟨M', σ', ⟨⟨he', vs', ho, hK⟩⟩, hr⟩
    rw [show res = fn.results.toList by rw [hres]] at ho
    obtain ⟨u, hu', hRA⟩ := resultsA_sound hL hr ho
    have hx : Ext F.may M M' := hr.heap.ext
    have hh' : HeapOk F M' σ'.hp w' := ⟨hr.heap.mem, hh.ext.trans hx, ⟨hr.heap.frm.os, hr.heap.frm.tape, hr.heap.frm.output, hr.heap.frm.size, hr.heap.frm.block⟩, hr.heap.at_, hr.heap.sep, hr.heap.out⟩
    have hfin : a'.defers = [] ∧ ∃ v, (results fn a'.tmps).run P w' = .ok v w' ∧ ∃ v' r hs' M', Ending.returned v = .returned v' ∧ R r hs' ∧ Ext F.may M M' ∧ HeapOk F M' hs' w' ∧ RA M' r v' :=
      ⟨hr.defers, u, hu', u, outA vs', σ'.hp.take k, M', rfl, hK, hx, hh'.take k, hRA⟩
    rcases he' with rfl | rfl <;> exact hfin
end
def selB (hp : List Blk) : List Nat → Option (List Blk)
  | [] => some []
  | i :: is => match hp[i]?, selB hp is with | some x, some r => some (x :: r) | _, _ => none
def freshB : List Nat → Bool
  | [] => true
  | i :: is => !is.contains i && freshB is
def putB (hp : List Blk) : List Nat → List Blk → List Blk
  | [], hs => hp ++ hs
  | _ :: _, [] => hp
  | i :: is, x :: hs => (putB hp is hs).set i x
def posB (hp : List Blk) (sel : List Nat) (i : Nat) : Nat := match sel[i]? with | some j => j | none => hp.length + (i - sel.length)
theorem selB_get {hp : List Blk} : ∀ {sel : List Nat} {hs : List Blk}, selB hp sel = some hs → ∀ {i : Nat} {x : Blk}, hs[i]? = some x → ∃ j : Nat, sel[i]? = some j ∧ hp[j]? = some x
  | [], hs, h, i, x, hx => by simp only [selB, Option.some.injEq] at h; subst h; simp at hx
  | k :: is, hs, h, i, x, hx => by
    simp only [selB] at h
    cases h1 : hp[k]? with
    | none => rw [h1] at h; cases h
    | some y =>
      cases h2 : selB hp is with
      | none => rw [h1, h2] at h; cases h
      | some r =>
        rw [h1, h2] at h
        simp only [Option.some.injEq] at h
        subst h
        cases i with
        | zero => simp only [List.getElem?_cons_zero, Option.some.injEq] at hx; subst hx; exact ⟨k, rfl, h1⟩
        | succ i => obtain ⟨j, h3, h4⟩ := selB_get h2 (i := i) (by simpa using hx); exact ⟨j, by simpa using h3, h4⟩
theorem freshB_inj : ∀ {sel : List Nat}, freshB sel = true → ∀ {i i' j : Nat}, sel[i]? = some j → sel[i']? = some j → i = i'
  | [], _, i, i', j, h, _ => by simp at h
  | k :: is, hf, i, i', j, h, h' => by
    simp only [freshB, Bool.and_eq_true, Bool.not_eq_true', List.contains_eq_mem, decide_eq_false_iff_not] at hf
    cases i with
    | zero =>
      simp only [List.getElem?_cons_zero, Option.some.injEq] at h
      cases i' with
      | zero => rfl
      | succ i' => simp only [List.getElem?_cons_succ] at h'; exact absurd (h ▸ List.mem_of_getElem? h') hf.1
    | succ i =>
      simp only [List.getElem?_cons_succ] at h
      cases i' with
      | zero => simp only [List.getElem?_cons_zero, Option.some.injEq] at h'; exact absurd (h' ▸ List.mem_of_getElem? h) hf.1
      | succ i' => simp only [List.getElem?_cons_succ] at h'; rw [freshB_inj hf.2 h h']
theorem putB_get {hp : List Blk} : ∀ {sel : List Nat} {hs : List Blk}, sel.length ≤ hs.length → ∀ {j : Nat} {x : Blk}, (putB hp sel hs)[j]? = some x → (∃ i, j = posB hp sel i ∧ hs[i]? = some x) ∨ (hp[j]? = some x ∧ j ∉ sel)
  | [], hs, _, j, x, h => by
    simp only [putB] at h
    rcases Nat.lt_or_ge j hp.length with hj | hj
    · rw [List.getElem?_append_left hj] at h
      exact .inr ⟨h, by simp⟩
    · rw [List.getElem?_append_right hj] at h
      exact .inl ⟨j - hp.length, by simp only [posB, List.getElem?_nil, List.length_nil]; omega, h⟩
  | k :: is, [], hl, _, _, _ => by simp at hl
  | k :: is, y :: hs, hl, j, x, h => by
    simp only [putB, List.getElem?_set] at h
    split at h
    · rename_i hkj
      subst hkj
      split at h
      · exact .inl ⟨0, rfl, by simpa using h⟩
      · cases h
    · rename_i hkj
      rcases putB_get (by simpa using hl) h with ⟨i, h1, h2⟩ | ⟨h1, h2⟩
      · refine .inl ⟨i + 1, ?_, by simpa using h2⟩
        rw [h1]
        simp only [posB, List.getElem?_cons_succ, List.length_cons]
        split <;> omega
      · exact .inr ⟨h1, by simp [h2, Ne.symm hkj]⟩
theorem sub_gx {F : Frm} {M : Mm} {hp hs : List Blk} {w : World} {sel : List Nat} (h : HeapOk F M hp w) (hs' : selB hp sel = some hs) : ∀ x ∈ globTab, ¬ ∃ (i : Nat) (y : Blk), hs[i]? = some y ∧ y.blk = some x.1 := by
  rintro x hx ⟨i, y, h1, h2⟩
  obtain ⟨j, _, h3⟩ := selB_get hs' h1
  obtain ⟨t, fr, e⟩ := F.G x hx
  rcases (h.out j y x.1 h3 h2).1 with h4 | h4
  · exact F.GX x hx h4
  · have := (Array.getElem?_eq_some_iff.1 e).1; omega
def subF (M : Mm) (hs : List Blk) (w : World) (hG : Glob w) (hX : ∀ x ∈ globTab, ¬ ∃ (i : Nat) (y : Blk), hs[i]? = some y ∧ y.blk = some x.1) : Frm := ⟨w, fun b => ∃ (i : Nat) (x : Blk), hs[i]? = some x ∧ x.blk = some b, M, hG, hX⟩
theorem heap_sel {F : Frm} {M : Mm} {hp hs : List Blk} {w : World} {sel : List Nat} (h : HeapOk F M hp w) (hs' : selB hp sel = some hs) (hf : freshB sel = true) : HeapOk (subF M hs w h.glob (sub_gx h hs')) M hs w := by
  refine ⟨h.mem, Ext.refl _ _, ⟨rfl, rfl, rfl, Nat.le_refl _, fun _ _ _ => rfl⟩, fun i x hx => ?_, fun i j x y b hx hy hxb hyb => ?_, fun i x b hx hxb => ?_⟩
  · obtain ⟨j, _, h2⟩ := selB_get hs' hx
    exact h.at_ j x h2
  · obtain ⟨k, h1, h2⟩ := selB_get hs' hx
    obtain ⟨k', h3, h4⟩ := selB_get hs' hy
    have := h.sep k k' x y b h2 h4 hxb hyb
    subst this
    exact freshB_inj hf h1 h3
  · obtain ⟨j, _, h2⟩ := selB_get hs' hx
    exact ⟨.inl ⟨i, x, hx, hxb⟩, (h.out j x b h2 hxb).2⟩
theorem sub_may {F : Frm} {M : Mm} {hp hs : List Blk} {w : World} {sel : List Nat} (h : HeapOk F M hp w) (hs' : selB hp sel = some hs) (b : Nat) (hb : (subF M hs w h.glob (sub_gx h hs')).may b) : F.may b := by
  rcases hb with ⟨i, x, hx, hxb⟩ | hb
  · obtain ⟨j, _, h2⟩ := selB_get hs' hx
    exact (h.out j x b h2 hxb).1
  · exact .inr (Nat.le_trans h.frm.size hb)
theorem heap_put {F : Frm} {M M' : Mm} {hp hs hs2 : List Blk} {w w' : World} {sel : List Nat} (h : HeapOk F M hp w) (hsl : selB hp sel = some hs) (hl : sel.length ≤ hs2.length) (h2 : HeapOk (subF M hs w h.glob (sub_gx h hsl)) M' hs2 w') : HeapOk F M' (putB hp sel hs2) w' := by
  have hM : Ext (subF M hs w h.glob (sub_gx h hsl)).may M M' := h2.ext
  have hX : ∀ b, (subF M hs w h.glob (sub_gx h hsl)).X b → ∃ (j : Nat) (x : Blk), j ∈ sel ∧ hp[j]? = some x ∧ x.blk = some b := by
    rintro b ⟨i, x, hx, hb⟩
    obtain ⟨j, h3, h4⟩ := selB_get hsl hx
    exact ⟨j, x, List.mem_of_getElem? h3, h4, hb⟩
  have hold : ∀ (j : Nat) (x : Blk) (b : Nat), hp[j]? = some x → j ∉ sel → x.blk = some b → b < w.heap.size ∧ ¬ (subF M hs w h.glob (sub_gx h hsl)).X b := by
    intro j x b hx hj hb
    refine ⟨(h.at_ j x hx).lt hb, fun hXb => ?_⟩
    obtain ⟨k, y, hk, hy, hyb⟩ := hX b hXb
    have := h.sep j k x y b hx hy hb hyb
    subst this
    exact hj hk
  refine ⟨h2.mem, h.ext.trans (hM.to (sub_may h hsl)), ⟨h2.frm.os.trans h.frm.os, h2.frm.tape.trans h.frm.tape, h2.frm.output.trans h.frm.output, Nat.le_trans h.frm.size h2.frm.size, fun b hb hnX => ?_⟩, fun j x hx => ?_, fun j k x y b hx hy hxb hyb => ?_, fun j x b hx hxb => ?_⟩
  · refine (h2.frm.block b (Nat.lt_of_lt_of_le hb h.frm.size) fun hXb => ?_).trans (h.frm.block b hb hnX)
    obtain ⟨k, y, _, hy, hyb⟩ := hX b hXb
    rcases (h.out k y b hy hyb).1 with h3 | h3
    · exact hnX h3
    · omega
  · rcases putB_get hl hx with ⟨i, _, hi⟩ | ⟨hj, hns⟩
    · exact h2.at_ i x hi
    · exact (h.at_ j x hj).keep hM.sub fun b hb hlt => h2.frm.block b hlt (hold j x b hj hns hb).2
  · rcases putB_get hl hx with ⟨i, hji, hi⟩ | ⟨hj, hns⟩
    · rcases putB_get hl hy with ⟨i', hji', hi'⟩ | ⟨hk, hns'⟩
      · rw [hji, hji', h2.sep i i' x y b hi hi' hxb hyb]
      · obtain ⟨h3, h4⟩ := hold k y b hk hns' hyb
        rcases (h2.out i x b hi hxb).1 with h5 | h5
        · exact absurd h5 h4
        · have : w.heap.size ≤ b := h5
          omega
    · rcases putB_get hl hy with ⟨i', hji', hi'⟩ | ⟨hk, hns'⟩
      · obtain ⟨h3, h4⟩ := hold j x b hj hns hxb
        rcases (h2.out i' y b hi' hyb).1 with h5 | h5
        · exact absurd h5 h4
        · have : w.heap.size ≤ b := h5
          omega
      · exact h.sep j k x y b hj hk hxb hyb
  · rcases putB_get hl hx with ⟨i, hji, hi⟩ | ⟨hj, hns⟩
    · obtain ⟨h3, h4⟩ := h2.out i x b hi hxb
      refine ⟨?_, h4⟩
      rcases h3 with h5 | h5
      · obtain ⟨k, y, _, hy, hyb⟩ := hX b h5
        exact (h.out k y b hy hyb).1
      · exact .inr (Nat.le_trans h.frm.size h5)
    · obtain ⟨h3, h4⟩ := h.out j x b hj hxb
      refine ⟨h3, fun p hp' => ?_⟩
      have hlt := hold j x b hj hns hxb
      cases hc : M' p with
      | none => rfl
      | some v =>
        rcases hM.2 p v hc with h5 | h5
        · rw [h4 p hp'] at h5; cases h5
        · rcases h5 with h6 | h6
          · exact absurd (hp' ▸ h6) hlt.2
          · have h7 : w.heap.size ≤ p.block := h6
            omega
def Re (a b : AV) : Prop := ∀ M u, RA M a u → RA M b u
def Res (asq bs : List AV) : Prop := ∀ M us, RAs M asq us → RAs M bs us
theorem re_refl {a : AV} : Re a a := fun _ _ h => h
theorem re_own {i j : Nat} {v : Value} : Re (.own i v) (.own j v) := fun M u h => by simp only [RA] at h ⊢; exact h
theorem re_ptr {i j b off : Nat} : Re (.ptr i b off) (.ptr j b off) := fun M u h => by simp only [RA] at h ⊢; exact h
theorem re_cls {a : AV} {t : T} (hz : Rzs [] [a] [t]) : Re a (.c t) := fun M u h => by
  have h1 : RAs M [a] [u] := by simp only [RAs]; exact ⟨u, [], rfl, h, rfl⟩
  have h2 := cls_sound _ _ _ hz h1
  simp only [RTs] at h2
  obtain ⟨x, r, e, h3, _⟩ := h2
  injection e with e _
  subst e
  simpa only [RA] using h3
theorem res_nil : Res [] [] := fun _ _ h => h
theorem res_cons {a b : AV} {asq bs : List AV} (h : Re a b) (h' : Res asq bs) : Res (a :: asq) (b :: bs) := fun M us hu => by
  simp only [RAs] at hu ⊢
  obtain ⟨x, r, e, h1, h2⟩ := hu
  exact ⟨x, r, e, h M x h1, h' M r h2⟩
section
variable {P : Program} {F : Frm} {d : Option Tmp} {ty : TypeId} {pos : String} {aft : Array Edge} {g : Option (Nat × Bool)} {ρ : Operand → AV} {hp : List Blk} {K : AV → List Blk → Prop}
theorem lo_callG {f : FuncId} {y : Operand} {xs : List Operand} {ats : Array TypeId} {asq cap : List AV} {hs : List Blk} {R : AV → List Blk → Prop} (sel : List Nat) (hc : AG P f asq hs R) (hy : ∀ M u, RA M (ρ y) u → ∃ cs : List Value, u = .func (.func f) #[] cs.toArray ∧ RAs M cap cs) (hx : Res (xs.map ρ ++ cap) asq) (hsl : selB hp sel = some hs) (hf : freshB sel = true)
    (h : ∀ r hs2, R r hs2 → ∃ r', Re r r' ∧ sel.length ≤ hs2.length ∧ K r' (putB hp sel hs2)) : LO P F ⟨d, .call { callee := .value y, args := xs.toArray, argTypes := ats }, ty, pos, aft, g⟩ ρ hp K := by
  refine ⟨fun M e w he hh => ?_⟩
  obtain ⟨hE, hcall⟩ := hc
  have h1 := he y (by simp [Op.operands, Call.operands])
  obtain ⟨cs, hu, hcs⟩ := hy M _ h1
  rw [run_call hE hu]
  have hav := (ev_all xs (fun x hx => he x (by simp [Op.operands, Call.operands, hx]))).app hcs
  refine (hcall (subF M hs w hh.glob (sub_gx hh hsl)) M w _ (heap_sel hh hsl hf) (hx M _ hav)).mono ?_
  rintro e' w' ⟨v, r, hs2, M', rfl, hR, hM, hh2, hr⟩
  obtain ⟨r', hre, hl, hK⟩ := h r hs2 hR
  exact ⟨v, rfl, M', r', _, hK, hM.to (sub_may hh hsl), heap_put hh hsl hl hh2, hre M' v hr⟩
end
end Go.Proofs.Ytldhlbjengpdbaa
namespace Go.Proofs.Ytldhlbjengpdbaa
open Go.RowKit
section
variable {L : Tab} {σ : AS}
theorem outsA_nil : OutsA L σ [] [] := by simp only [OutsA]
theorem outsA_cons {r : ResultVar} {rs : List ResultVar} {v : AV} {vs : List AV} (h : OutA L σ r v) (h' : OutsA L σ rs vs) : OutsA L σ (r :: rs) (v :: vs) := by simp only [OutsA]; exact ⟨v, vs, rfl, h, h'⟩
theorem outA_tmp {i : Nat} {v : AV} (h : fc (σ.tmps i) = some v) : OutA L σ (.tmp i) v := by simp only [OutA]; exact fc_eq h
theorem outA_agg {a ty i b off : Nat} {tb : TypeId} {cs l : List AV} {ti : TI} (h1 : σ.tmps a = .ptr i b off) (h2 : σ.hp[i]? = some (.box b tb cs)) (h3 : L.look ty = some ti) (h4 : ti.agg = true) (h5 : Nat.ble (off + ti.size) cs.length = true) (h6 : evl ((cs.drop off).take ti.size) = some l) : OutA L σ (.cell a ty) (.agg l) := by
  simp only [OutA]
  refine ⟨i, b, off, tb, cs, ti, h1, h2, h3, ?_⟩
  rw [h4]
  exact ⟨Nat.le_of_ble_eq_true h5, by rw [evl_eq h6]⟩
theorem outA_one {a ty i b off : Nat} {tb : TypeId} {cs : List AV} {v : AV} {ti : TI} (h1 : σ.tmps a = .ptr i b off) (h2 : σ.hp[i]? = some (.box b tb cs)) (h3 : L.look ty = some ti) (h4 : ti.agg = false) (h5 : cs[off]? = some v) : OutA L σ (.cell a ty) v := by
  simp only [OutA]
  refine ⟨i, b, off, tb, cs, ti, h1, h2, h3, ?_⟩
  rw [h4]
  exact h5
theorem zG {res : List ResultVar} {k : Nat} {R : AV → List Blk → Prop} {e : Exit} {vs : List AV} {hq : List Blk} (h : R (outA vs) hq) (he : e = .normal ∨ e = .ret := by first | exact .inl rfl | exact .inr rfl)
    (ho : OutsA L σ res vs := by repeat (first | exact outsA_nil | apply outsA_cons | (apply outA_tmp; (focus exact rfl)) | (apply outA_agg; (focus exact rfl); (focus exact rfl); (focus exact rfl); (focus exact rfl); (focus exact rfl); (focus exact rfl)) | (apply outA_one; (focus exact rfl); (focus exact rfl); (focus exact rfl); (focus exact rfl); (focus exact rfl))))
    (hh : evl (σ.hp.take k) = some hq := by exact rfl) : FinG L res k R e σ := ⟨he, vs, ho, by rw [← evl_eq hh]; exact h⟩
end
section
variable {P : Program} {F : Frm} {L : Tab} {d : Option Tmp} {ty : TypeId} {pos : String} {aft : Array Edge} {g : Option (Nat × Bool)} {ρ : Operand → AV} {hp : List Blk} {K : AV → List Blk → Prop}
theorem zCallG {f : FuncId} {y : Operand} {xs : List Operand} {ats : Array TypeId} {asq cap : List AV} {hs : List Blk} {R : AV → List Blk → Prop} (sel : List Nat) (hc : AG P f asq hs R)
    (h : ∀ r hs2, R r hs2 → ∃ r' hp', Re r r' ∧ Nat.ble sel.length hs2.length = true ∧ evl (putB hp sel hs2) = some hp' ∧ K r' hp') (hy : ρ y = .fn (.func f) cap := by exact rfl)
    (hx : Res (xs.map ρ ++ cap) asq := by repeat (first | exact res_nil | apply res_cons | exact re_own | exact re_ptr | exact re_refl | apply re_cls | exact rzs_nil | apply rzs_cons | exact rz_c | exact rz_nil rfl | apply rz_agg | apply rz_fn | apply rz_tup)) (hsl : selB hp sel = some hs := by exact rfl) (hf : freshB sel = true := by exact rfl) :
    LO P F ⟨d, .call { callee := .value y, args := xs.toArray, argTypes := ats }, ty, pos, aft, g⟩ ρ hp K :=
  lo_callG sel hc (fun M u hu => by rw [hy] at hu; simpa only [RA] using hu) hx hsl hf fun r hs2 hR => by
    obtain ⟨r', hp', h1, h2, h3, h4⟩ := h r hs2 hR
    exact ⟨r', h1, Nat.le_of_ble_eq_true h2, by rw [← evl_eq h3]; exact h4⟩
variable {t u e : TypeId} {x y : Operand} {ti tu te : TI} {cs : List T} {n i : Nat} {v : Value} {e' : TypeId}
end
end Go.Proofs.Ytldhlbjengpdbaa
namespace Go.Proofs.Ytldhlbjengpdbaa
open Go.RowKit
def bs (l : List UInt8) : ByteArray := ⟨l.toArray⟩
section
variable {P : Program} {F : Frm} {L : Tab} {d : Option Tmp} {ty : TypeId} {pos : String} {aft : Array Edge} {g : Option (Nat × Bool)} {ρ : Operand → AV} {hp : List Blk} {K : AV → List Blk → Prop}
theorem zBo {t el : TypeId} {ti te : TI} {n k : Nat} {parts : List (Nat × Operand)} {cs cs' : List AV} {ts : List T} {hp' : Value → List Blk} (h : ∀ v, K (.own k v) (hp' v)) (hL : TabOk P L := by exact tok) (ht : L.look t = some ti := by exact rfl) (hd : ti.d = .slice el := by exact rfl) (hte : L.look el = some te := by exact rfl) (h0 : Nat.ble 1 te.size = true := by exact rfl) (hn : Nat.ble (n * te.size) 16777216 = true := by exact rfl)
    (hf : fillA (fun i => some (i * te.size, te.size)) ((List.range (n * te.size)).map fun j => .c (.lit (te.zero.getD (j % te.size) undef))) (parts.map fun p => (p.1, ρ p.2)) = some cs := by exact rfl) (he : evl cs = some cs' := by exact rfl) (hz : Rzs [] cs' ts := by repeat (first | exact rzs_nil | apply rzs_cons | exact rz_c | exact rz_nil rfl | apply rz_agg | exact rz_own rfl | apply rz_fn | exact rz_ptr rfl | apply rz_tup)) (hk : lenU hp = some k := by exact rfl) (hq : ∀ v, evl (hp ++ [.row v el te.size n ts]) = some (hp' v) := by exact fun _ => rfl) :
    LO P F ⟨d, .buildSlice t n parts.toArray, ty, pos, aft, g⟩ ρ hp K := v_bslice_own hL ht hd hte h0 hn hf he hz hk hq h
end
end Go.Proofs.Ytldhlbjengpdbaa
namespace Go.Proofs.Ytldhlbjengpdbaa
open Go.RowKit
inductive Pl where
  | fin (r : List Nat)
  | fork (p : List Nat) (i : Nat) (a : Pl) (j : Nat) (b : Pl)
def Pl.n : Pl → Nat
  | .fin r => r.length
  | .fork p _ a _ _ => a.n + 1 + p.length
end Go.Proofs.Ytldhlbjengpdbaa
namespace Go.Proofs.Ytldhlbjengpdbaa
open Go.RowKit
theorem guard_slice {P : Program} {op : BinOp} {t : TypeId} {x y : Operand} {a b : Option Addr} {n c n' c' : Nat} (w : World) : (eqGuard op t x y (.slice a n c) (.slice b n' c')).run P w = .ok () w := by
  unfold eqGuard; simp
theorem run_nilS {P : Program} {t e : TypeId} (h : P.underlying t = some (.slice e)) (a : Option Addr) (n c : Nat) (w : World) : (Op.equal t (.slice a n c) (.slice none 0 0)).run P w = .ok a.isNone w := by
  rw [Op.equal, show Op.maxDepth = 9999 + 1 from rfl, Op.equalIn]
  simp only [Sem.run_bind, run_underlying h, Result.andThen_ok]
  cases a <;> rfl
section
variable {P : Program} {F : Frm} {L : Tab} {d : Option Tmp} {ty : TypeId} {pos : String} {aft : Array Edge} {g : Option (Nat × Bool)} {ρ : Operand → AV} {hp : List Blk} {K : AV → List Blk → Prop}
theorem zNs {t t' el : TypeId} {ti : TI} {x y : Operand} {n sz : Nat} {cs : List T} (h : ∀ b : Bool, (b = true → n = 0) → K (.c (.lit (.bool b))) hp) (hL : TabOk P L := by exact tok) (hx : ρ x = .c (.row n sz cs) := by exact rfl) (hy : ρ y = .c (.lit (.slice none 0 0)) := by exact rfl) (ht : L.look t = some ti := by exact rfl) (hd : ti.d = .slice el := by exact rfl) : LO P F ⟨d, .binOp .eql t x y t', ty, pos, aft, g⟩ ρ hp K := by
  refine ⟨fun M e w he hh => ?_⟩
  have h1 := he x (by first | (simp [Op.operands]; done) | simp [Op.operands, Call.operands])
  rw [hx] at h1
  have h2 := he y (by first | (simp [Op.operands]; done) | simp [Op.operands, Call.operands])
  rw [hy] at h2
  simp only [RA, RT] at h1 h2
  obtain ⟨A, c, xs, hu, hc, hn, h0, hl, hat, hrt⟩ := h1
  have hr : (execOp e ⟨d, .binOp .eql t x y t', ty, pos, aft, g⟩).run P w = .ok (.value (.bool A.isNone)) w := by
    simp [execOp, hu, h2, guard_slice, binOp, run_nilS (hL.slice ht hd)]
  rw [hr]
  refine ⟨M, _, hp, h A.isNone fun hb => ?_, Ext.refl _ _, hh, by simp only [RA, RT]⟩
  rcases Nat.eq_zero_or_pos n with h3 | h3
  · exact h3
  · obtain ⟨ad, rfl, _⟩ := hat h3
    cases hb
end
end Go.Proofs.Ytldhlbjengpdbaa
namespace Go.Proofs.Ytldhlbjengpdbaa
open Go.RowKit
section
variable {P : Program} {F : Frm} {L : Tab} {d : Option Tmp} {ty : TypeId} {pos : String} {aft : Array Edge} {g : Option (Nat × Bool)} {ρ : Operand → AV} {hp : List Blk} {K : AV → List Blk → Prop}
theorem own_turn {M : Mm} {w : World} (hh : HeapOk F M hp w) {i n n' sz : Nat} {v v' : Value} {e : TypeId} {cs cs' : List T} (hi : hp[i]? = some (.row v e sz n cs)) (hb : ∀ b, v'.ownBlock = some b → v.ownBlock = some b) (hx : BlkOk M w (.row v' e sz n' cs')) : HeapOk F M (hp.set i (.row v' e sz n' cs')) w := by
  refine hh.step i rfl rfl rfl (Nat.le_refl _) (fun _ _ _ => rfl) (Ext.refl _ _) (fun p v h1 h2 => by rw [h2] at h1; cases h1) (fun j hj => by rw [List.getElem?_set_ne (Ne.symm hj)]) (fun x' hx' => ?_)
  have hlt : i < hp.length := (List.getElem?_eq_some_iff.1 hi).1
  rw [List.getElem?_set_self hlt] at hx'
  obtain rfl : Blk.row v' e sz n' cs' = x' := by injection hx'
  exact ⟨hx, fun b hb' => .inl ⟨_, hi, hb b hb'⟩⟩
theorem lo_own_hi (hL : TabOk P L) {t el : TypeId} {ti te : TI} {x y : Operand} {i n sz : Nat} {v : Value} {e : TypeId} {cs : List T} {k : IntKind} {z : Int} (l : Nat) (hl : l ≤ n) (hx : ρ x = .own i v) (hi : hp[i]? = some (.row v e sz n cs)) (hy : ρ y = .c (.lit (.int k z))) (hz : z = (l : Int)) (ht : L.look t = some ti) (hd : ti.d = .slice el) (hte : L.look el = some te) (hsz : te.size = sz)
    (h : ∀ v', K (.own i v') (hp.set i (.row v' e sz l (cs.take (l * sz))))) : LO P F ⟨d, .slice t x none (some y) none, ty, pos, aft, g⟩ ρ hp K := by
  refine ⟨fun M ev w he hh => ?_⟩
  have h1 := he x (by simp [Op.operands])
  rw [hx] at h1
  simp only [RA] at h1
  have h2 := he y (by simp [Op.operands])
  rw [hy] at h2
  simp only [RA, RT] at h2
  obtain ⟨xs, ho, hxs, hone, h0⟩ := hh.at_ i _ hi
  obtain ⟨A, c, rfl, hnc, hcm⟩ := ownO_shape ho
  subst hz
  have hb := run_sliceBound (P := P) (w := w) k (l : Int) c .sliceAcap (by omega) (by omega)
  have hr : (execOp ev ⟨d, .slice t x none (some y) none, ty, pos, aft, g⟩).run P w = .ok (.value (.slice A l c)) w := by
    have hz : (if c = 0 then A else A.map (·.add 0)) = A := by
      cases A with
      | none => split <;> rfl
      | some ad => split <;> simp [add_zero']
    simp [execOp, Instr.sliceAt, Instr.slice, Instr.sliceBounds, h1.1, h2, run_underlying (hL.slice ht hd), hL.sizeOf hte, hb, hsz]
    first | done | exact hz | simpa using hz
  rw [hr]
  have hd := ho.take hl
  exact ⟨M, _, _, h (.slice A l c), Ext.refl _ _, own_turn hh hi (fun b hb => by cases A <;> exact hb) ⟨_, hd, hxs.take _, fun x hx => hone x (List.mem_of_mem_take hx), h0⟩, by simp only [RA]; exact ⟨trivial, own_oneO hd⟩⟩
theorem zQh {t el : TypeId} {ti te : TI} {x y : Operand} {i n sz : Nat} {v : Value} {e : TypeId} {cs : List T} {k : IntKind} {z : Int} {hp' : Value → List Blk} (l : Nat) (hl : l ≤ n) (h : ∀ v', K (.own i v') (hp' v')) (hz : z = (l : Int) := by exact rfl) (hL : TabOk P L := by exact tok) (hx : ρ x = .own i v := by exact rfl) (hi : hp[i]? = some (.row v e sz n cs) := by exact rfl) (hy : ρ y = .c (.lit (.int k z)) := by exact rfl) (ht : L.look t = some ti := by exact rfl) (hd : ti.d = .slice el := by exact rfl) (hte : L.look el = some te := by exact rfl) (hsz : te.size = sz := by exact rfl)
    (hf : ∀ v', evl (hp.set i (.row v' e sz l (cs.take (l * sz)))) = some (hp' v') := by exact fun _ => rfl) : LO P F ⟨d, .slice t x none (some y) none, ty, pos, aft, g⟩ ρ hp K :=
  lo_own_hi hL l hl hx hi hy hz ht hd hte hsz fun v' => by rw [← evl_eq (hf v')]; exact h v'
end
end Go.Proofs.Ytldhlbjengpdbaa
namespace Go.Proofs.Ytldhlbjengpdbaa
set_option maxRecDepth 100000 in
def tab : Tab :=
  (.node 70 ⟨3, 32, [.string ⟨#[]⟩, .int .i64 0, .int .i64 0], (.struct [(0, 1), (1, 1), (2, 1)])⟩ (.node 35 ⟨2, 16, [.int .i64 0, .int .i64 0], (.struct [(0, 1), (1, 1)])⟩ (.node 17 ⟨1, 8, [.pointer none], .other⟩ (.node 9 ⟨1, 16, [.string ⟨#[]⟩], .string⟩ (.node 5 ⟨1, 1, [.int .u8 0], (.int .u8)⟩ (.node 3 ⟨1, 8, [.int .i64 0], (.int .i64)⟩ (.node 2 ⟨1, 8, [.int .i64 0], (.int .i64)⟩ (.node 1 ⟨1, 8, [.nilFunc], .other⟩ .nil .nil) .nil) (.node 4 ⟨1, 1, [.bool false], .bool⟩ .nil .nil)) (.node 7 ⟨4, 24, [.int .i64 0, .int .i64 0, .bool false, .int .u8 0], (.struct [(0, 1), (1, 1), (2, 1), (3, 1)])⟩ (.node 6 ⟨1, 1, [.int .u8 0], (.int .u8)⟩ .nil .nil) (.node 8 ⟨4, 24, [.int .i64 0, .int .i64 0, .bool false, .int .u8 0], (.struct [(0, 1), (1, 1), (2, 1), (3, 1)])⟩ .nil .nil))) (.node 13 ⟨2, 24, [.string ⟨#[]⟩, .int .u64 0], (.struct [(0, 1), (1, 1)])⟩ (.node 11 ⟨1, 16, [.string ⟨#[]⟩], .string⟩ (.node 10 ⟨1, 16, [.string ⟨#[]⟩], .string⟩ .nil .nil) (.node 12 ⟨1, 8, [.int .u64 0], (.int .u64)⟩ .nil .nil)) (.node 15 ⟨1, 8, [.pointer none], .other⟩ (.node 14 ⟨2, 24, [.string ⟨#[]⟩, .int .u64 0], (.struct [(0, 1), (1, 1)])⟩ .nil .nil) (.node 16 ⟨1, 8, [.pointer none], .other⟩ .nil .nil)))) (.node 26 ⟨1, 24, [.slice none 0 0], (.slice 59)⟩ (.node 22 ⟨1, 24, [.slice none 0 0], (.slice 70)⟩ (.node 20 ⟨1, 16, [.nilIface], .other⟩ (.node 19 ⟨1, 8, [.pointer none], (.struct [(0, 1)])⟩ (.node 18 ⟨1, 8, [.pointer none], (.struct [(0, 1)])⟩ .nil .nil) .nil) (.node 21 ⟨1, 4, [.int .i32 0], (.int .i32)⟩ .nil .nil)) (.node 24 ⟨1, 24, [.slice none 0 0], (.slice 55)⟩ (.node 23 ⟨1, 24, [.slice none 0 0], (.slice 73)⟩ .nil .nil) (.node 25 ⟨1, 24, [.slice none 0 0], (.slice 63)⟩ .nil .nil))) (.node 30 ⟨1, 24, [.slice none 0 0], (.slice 9)⟩ (.node 28 ⟨8, 168, [.string ⟨#[]⟩, .int .i64 0, .slice none 0 0, .slice none 0 0, .slice none 0 0, .slice none 0 0, .slice none 0 0, .slice none 0 0], (.struct [(0, 1), (1, 1), (2, 1), (3, 1), (4, 1), (5, 1), (6, 1), (7, 1)])⟩ (.node 27 ⟨1, 24, [.slice none 0 0], (.slice 68)⟩ .nil .nil) (.node 29 ⟨8, 168, [.string ⟨#[]⟩, .int .i64 0, .slice none 0 0, .slice none 0 0, .slice none 0 0, .slice none 0 0, .slice none 0 0, .slice none 0 0], (.struct [(0, 1), (1, 1), (2, 1), (3, 1), (4, 1), (5, 1), (6, 1), (7, 1)])⟩ .nil .nil)) (.node 32 ⟨1, 8, [.int .i64 0], (.int .i64)⟩ (.node 31 ⟨1, 8, [.nilFunc], .other⟩ .nil .nil) (.node 34 ⟨1, 8, [.nilFunc], .other⟩ .nil .nil))))) (.node 53 ⟨1, 8, [.nilFunc], .other⟩ (.node 45 ⟨1, 24, [.slice none 0 0], (.slice 85)⟩ (.node 41 ⟨1, 8, [.nilFunc], .other⟩ (.node 39 ⟨1, 8, [.nilFunc], .other⟩ (.node 37 ⟨1, 8, [.nilFunc], .other⟩ (.node 36 ⟨2, 16, [.int .i64 0, .int .i64 0], (.struct [(0, 1), (1, 1)])⟩ .nil .nil) .nil) (.node 40 ⟨1, 8, [.nilFunc], .other⟩ .nil .nil)) (.node 43 ⟨1, 8, [.nilFunc], .other⟩ (.node 42 ⟨1, 24, [.slice none 0 0], (.slice 47)⟩ .nil .nil) (.node 44 ⟨1, 24, [.slice none 0 0], (.slice 57)⟩ .nil .nil))) (.node 49 ⟨1, 8, [.nilFunc], .other⟩ (.node 47 ⟨8, 136, [.int .i64 0, .int .i64 0, .string ⟨#[]⟩, .slice none 0 0, .slice none 0 0, .slice none 0 0, .slice none 0 0, .int .i64 0], (.struct [(0, 1), (1, 1), (2, 1), (3, 1), (4, 1), (5, 1), (6, 1), (7, 1)])⟩ (.node 46 ⟨8, 136, [.int .i64 0, .int .i64 0, .string ⟨#[]⟩, .slice none 0 0, .slice none 0 0, .slice none 0 0, .slice none 0 0, .int .i64 0], (.struct [(0, 1), (1, 1), (2, 1), (3, 1), (4, 1), (5, 1), (6, 1), (7, 1)])⟩ .nil .nil) (.node 48 ⟨1, 8, [.nilFunc], .other⟩ .nil .nil)) (.node 51 ⟨1, 8, [.nilFunc], .other⟩ (.node 50 ⟨1, 8, [.nilFunc], .other⟩ .nil .nil) (.node 52 ⟨1, 8, [.nilFunc], .other⟩ .nil .nil)))) (.node 61 ⟨1, 8, [.nilFunc], .other⟩ (.node 57 ⟨3, 48, [.int .i64 0, .string ⟨#[]⟩, .slice none 0 0], (.struct [(0, 1), (1, 1), (2, 1)])⟩ (.node 55 ⟨2, 40, [.string ⟨#[]⟩, .slice none 0 0], (.struct [(0, 1), (1, 1)])⟩ (.node 54 ⟨2, 40, [.string ⟨#[]⟩, .slice none 0 0], (.struct [(0, 1), (1, 1)])⟩ .nil .nil) (.node 56 ⟨3, 48, [.int .i64 0, .string ⟨#[]⟩, .slice none 0 0], (.struct [(0, 1), (1, 1), (2, 1)])⟩ .nil .nil)) (.node 59 ⟨15, 272, [.string ⟨#[]⟩, .slice none 0 0, .slice none 0 0, .slice none 0 0, .int .i64 0, .string ⟨#[]⟩, .slice none 0 0, .int .i64 0, .int .i64 0, .string ⟨#[]⟩, .slice none 0 0, .slice none 0 0, .slice none 0 0, .slice none 0 0, .int .i64 0], (.struct [(0, 1), (1, 1), (2, 1), (3, 1), (4, 3), (7, 8)])⟩ (.node 58 ⟨15, 272, [.string ⟨#[]⟩, .slice none 0 0, .slice none 0 0, .slice none 0 0, .int .i64 0, .string ⟨#[]⟩, .slice none 0 0, .int .i64 0, .int .i64 0, .string ⟨#[]⟩, .slice none 0 0, .slice none 0 0, .slice none 0 0, .slice none 0 0, .int .i64 0], (.struct [(0, 1), (1, 1), (2, 1), (3, 1), (4, 3), (7, 8)])⟩ .nil .nil) (.node 60 ⟨1, 8, [.pointer none], .other⟩ .nil .nil))) (.node 66 ⟨1, 8, [.nilFunc], .other⟩ (.node 63 ⟨3, 56, [.string ⟨#[]⟩, .string ⟨#[]⟩, .slice none 0 0], (.struct [(0, 1), (1, 1), (2, 1)])⟩ (.node 62 ⟨3, 56, [.string ⟨#[]⟩, .string ⟨#[]⟩, .slice none 0 0], (.struct [(0, 1), (1, 1), (2, 1)])⟩ .nil .nil) (.node 65 ⟨1, 8, [.nilFunc], .other⟩ .nil .nil)) (.node 68 ⟨14, 248, [.string ⟨#[]⟩, .slice none 0 0, .slice none 0 0, .int .i64 0, .string ⟨#[]⟩, .slice none 0 0, .int .i64 0, .int .i64 0, .string ⟨#[]⟩, .slice none 0 0, .slice none 0 0, .slice none 0 0, .slice none 0 0, .int .i64 0], (.struct [(0, 1), (1, 1), (2, 1), (3, 3), (6, 8)])⟩ (.node 67 ⟨14, 248, [.string ⟨#[]⟩, .slice none 0 0, .slice none 0 0, .int .i64 0, .string ⟨#[]⟩, .slice none 0 0, .int .i64 0, .int .i64 0, .string ⟨#[]⟩, .slice none 0 0, .slice none 0 0, .slice none 0 0, .slice none 0 0, .int .i64 0], (.struct [(0, 1), (1, 1), (2, 1), (3, 3), (6, 8)])⟩ .nil .nil) (.node 69 ⟨3, 32, [.string ⟨#[]⟩, .int .i64 0, .int .i64 0], (.struct [(0, 1), (1, 1), (2, 1)])⟩ .nil .nil)))))) (.node 105 ⟨1, 8, [.nilFunc], .other⟩ (.node 87 ⟨1, 8, [.nilFunc], .other⟩ (.node 79 ⟨1, 8, [.map none], .other⟩ (.node 75 ⟨1, 8, [.nilFunc], .other⟩ (.node 73 ⟨3, 64, [.string ⟨#[]⟩, .slice none 0 0, .slice none 0 0], (.struct [(0, 1), (1, 1), (2, 1)])⟩ (.node 72 ⟨3, 64, [.string ⟨#[]⟩, .slice none 0 0, .slice none 0 0], (.struct [(0, 1), (1, 1), (2, 1)])⟩ (.node 71 ⟨1, 24, [.slice none 0 0], (.slice 77)⟩ .nil .nil) .nil) (.node 74 ⟨1, 24, [.slice none 0 0], (.slice 30)⟩ .nil .nil)) (.node 77 ⟨2, 40, [.string ⟨#[]⟩, .slice none 0 0], (.struct [(0, 1), (1, 1)])⟩ (.node 76 ⟨2, 40, [.string ⟨#[]⟩, .slice none 0 0], (.struct [(0, 1), (1, 1)])⟩ .nil .nil) (.node 78 ⟨1, 8, [.nilFunc], .other⟩ .nil .nil))) (.node 83 ⟨4, 56, [.int .i64 0, .int .i64 0, .string ⟨#[]⟩, .slice none 0 0], (.struct [(0, 1), (1, 1), (2, 1), (3, 1)])⟩ (.node 81 ⟨1, 24, [.slice none 0 0], (.slice 83)⟩ (.node 80 ⟨1, 8, [.nilFunc], .other⟩ .nil .nil) (.node 82 ⟨4, 56, [.int .i64 0, .int .i64 0, .string ⟨#[]⟩, .slice none 0 0], (.struct [(0, 1), (1, 1), (2, 1), (3, 1)])⟩ .nil .nil)) (.node 85 ⟨12, 192, [.int .i64 0, .int .i64 0, .string ⟨#[]⟩, .slice none 0 0, .int .i64 0, .int .i64 0, .string ⟨#[]⟩, .slice none 0 0, .slice none 0 0, .slice none 0 0, .slice none 0 0, .int .i64 0], (.struct [(0, 4), (4, 8)])⟩ (.node 84 ⟨12, 192, [.int .i64 0, .int .i64 0, .string ⟨#[]⟩, .slice none 0 0, .int .i64 0, .int .i64 0, .string ⟨#[]⟩, .slice none 0 0, .slice none 0 0, .slice none 0 0, .slice none 0 0, .int .i64 0], (.struct [(0, 4), (4, 8)])⟩ .nil .nil) (.node 86 ⟨1, 8, [.nilFunc], .other⟩ .nil .nil)))) (.node 96 ⟨1, 8, [.nilFunc], .other⟩ (.node 92 ⟨1, 8, [.nilFunc], .other⟩ (.node 90 ⟨4, 32, [.map none, .map none, .map none, .map none], (.struct [(0, 1), (1, 1), (2, 1), (3, 1)])⟩ (.node 89 ⟨4, 32, [.map none, .map none, .map none, .map none], (.struct [(0, 1), (1, 1), (2, 1), (3, 1)])⟩ (.node 88 ⟨1, 8, [.map none], .other⟩ .nil .nil) .nil) (.node 91 ⟨1, 8, [.nilFunc], .other⟩ .nil .nil)) (.node 94 ⟨1, 8, [.nilFunc], .other⟩ (.node 93 ⟨1, 8, [.nilFunc], .other⟩ .nil .nil) (.node 95 ⟨1, 8, [.nilFunc], .other⟩ .nil .nil))) (.node 100 ⟨1, 8, [.nilFunc], .other⟩ (.node 98 ⟨1, 8, [.nilFunc], .other⟩ (.node 97 ⟨1, 8, [.nilFunc], .other⟩ .nil .nil) (.node 99 ⟨1, 8, [.int .u64 0], (.int .u64)⟩ .nil .nil)) (.node 102 ⟨1, 8, [.nilFunc], .other⟩ (.node 101 ⟨1, 8, [.nilFunc], .other⟩ .nil .nil) (.node 103 ⟨1, 8, [.int .i64 0], (.int .i64)⟩ .nil .nil))))) (.node 123 ⟨1, 8, [.nilFunc], .other⟩ (.node 114 ⟨1, 8, [.int .u64 0], (.int .u64)⟩ (.node 110 ⟨1, 8, [.nilFunc], .other⟩ (.node 108 ⟨1, 8, [.nilFunc], .other⟩ (.node 107 ⟨1, 8, [.nilFunc], .other⟩ (.node 106 ⟨1, 8, [.nilFunc], .other⟩ .nil .nil) .nil) (.node 109 ⟨1, 8, [.nilFunc], .other⟩ .nil .nil)) (.node 112 ⟨1, 8, [.nilFunc], .other⟩ (.node 111 ⟨1, 4, [.int .u32 0], (.int .u32)⟩ .nil .nil) (.node 113 ⟨1, 8, [.int .u64 0], (.int .u64)⟩ .nil .nil))) (.node 118 ⟨1, 8, [.pointer none], .other⟩ (.node 116 ⟨1, 8, [.nilFunc], .other⟩ (.node 115 ⟨1, 8, [.nilFunc], .other⟩ .nil .nil) (.node 117 ⟨1, 8, [.nilFunc], .other⟩ .nil .nil)) (.node 120 ⟨1, 8, [.nilFunc], .other⟩ (.node 119 ⟨1, 8, [.nilFunc], .other⟩ .nil .nil) (.node 121 ⟨1, 8, [.pointer none], .other⟩ .nil .nil)))) (.node 131 ⟨1, 1, [.int .u8 0], (.int .u8)⟩ (.node 127 ⟨0, 0, [], (.array 0 16)⟩ (.node 125 ⟨4, 40, [.pointer none, .pointer none, .pointer none, .string ⟨#[]⟩], (.struct [(0, 1), (1, 1), (2, 1), (3, 1)])⟩ (.node 124 ⟨1, 8, [.nilFunc], .other⟩ .nil .nil) (.node 126 ⟨4, 40, [.pointer none, .pointer none, .pointer none, .string ⟨#[]⟩], (.struct [(0, 1), (1, 1), (2, 1), (3, 1)])⟩ .nil .nil)) (.node 129 ⟨0, 0, [], (.struct [(0, 0)])⟩ (.node 128 ⟨0, 0, [], (.struct [(0, 0)])⟩ .nil .nil) (.node 130 ⟨1, 8, [.nilFunc], .other⟩ .nil .nil))) (.node 135 ⟨1, 4, [.int .i32 0], (.int .i32)⟩ (.node 133 ⟨1, 8, [.nilFunc], .other⟩ (.node 132 ⟨1, 1, [.int .u8 0], (.int .u8)⟩ .nil .nil) (.node 134 ⟨1, 8, [.pointer none], .other⟩ .nil .nil)) (.node 137 ⟨11, 48, [.int .u64 0, .int .u64 0, .int .u32 0, .int .u8 0, .int .u8 0, .int .u8 0, .int .u8 0, .nilFunc, .pointer none, .int .i32 0, .int .i32 0], (.struct [(0, 1), (1, 1), (2, 1), (3, 1), (4, 1), (5, 1), (6, 1), (7, 1), (8, 1), (9, 1), (10, 1)])⟩ (.node 136 ⟨1, 4, [.int .i32 0], (.int .i32)⟩ .nil .nil) (.node 138 ⟨11, 48, [.int .u64 0, .int .u64 0, .int .u32 0, .int .u8 0, .int .u8 0, .int .u8 0, .int .u8 0, .nilFunc, .pointer none, .int .i32 0, .int .i32 0], (.struct [(0, 1), (1, 1), (2, 1), (3, 1), (4, 1), (5, 1), (6, 1), (7, 1), (8, 1), (9, 1), (10, 1)])⟩ .nil .nil)))))))
set_option maxRecDepth 100000 in
theorem tabOkB : tab.okB Try.prog = true := by kernel_rfl
theorem tok : TabOk Try.prog tab := tab_ok tabOkB
end Go.Proofs.Ytldhlbjengpdbaa
namespace Go.Proofs.Ytldhlbjengpdbaa
open Go.RowKit
inductive V where
  | mk (kind num : Int) (text : ByteArray) (args : List V)
mutual
def V.ts : V → List T
  | .mk k n t l => [.lit (.int .i64 k), .lit (.int .i64 n), .lit (.string t), .row l.length 4 (V.all l)]
def V.all : List V → List T
  | [] => []
  | v :: r => v.ts ++ V.all r
end
theorem V.all_eq : ∀ l : List V, V.all l = l.flatMap V.ts
  | [] => rfl
  | v :: l => by rw [V.all, V.all_eq l]; rfl
theorem V.ts_len : ∀ v : V, v.ts.length = 4
  | .mk _ _ _ _ => rfl
def V.row (l : List V) : T := .row l.length 4 (V.all l)
def V.t (v : V) : T := .agg v.ts
mutual
def V.same : V → V → Bool
  | .mk k n t l, .mk k' n' t' l' => decide (k = k') && decide (n = n') && decide (t = t') && V.sames l l'
def V.sames : List V → List V → Bool
  | [], [] => true
  | v :: l, v' :: l' => v.same v' && V.sames l l'
  | _, _ => false
end
theorem V.at {l : List V} {k : Nat} {v : V} (h : l[k]? = some v) : ((V.all l).drop (k * 4)).take 4 = v.ts := by rw [V.all_eq]; exact flat_at V.ts 4 V.ts_len h
/-- all pairs up to the first that is not alike -/
def eqBy {α β : Type} (p : α → β → Bool) : List α → List β → Bool
  | [], [] => true
  | a :: l, b :: r => p a b && eqBy p l r
  | _, _ => false
theorem eqBy_len {α β : Type} {p : α → β → Bool} : ∀ {l : List α} {r : List β}, l.length ≠ r.length → eqBy p l r = false
  | [], [], h => absurd rfl h
  | [], _ :: _, _ => rfl
  | _ :: _, [], _ => rfl
  | a :: l, b :: r, h => by rw [eqBy, eqBy_len (by simpa using h), Bool.and_false]
theorem eqBy_step {α β : Type} {p : α → β → Bool} {l : List α} {r : List β} {k : Nat} {a : α} {b : β} (ha : l[k]? = some a) (hb : r[k]? = some b) : eqBy p (l.drop k) (r.drop k) = (p a b && eqBy p (l.drop (k + 1)) (r.drop (k + 1))) := by
  obtain ⟨h1, rfl⟩ := List.getElem?_eq_some_iff.1 ha
  obtain ⟨h2, rfl⟩ := List.getElem?_eq_some_iff.1 hb
  rw [List.drop_eq_getElem_cons h1, List.drop_eq_getElem_cons h2, eqBy]
mutual
def V.size : V → Nat
  | .mk _ _ _ l => V.sizes l + 1
def V.sizes : List V → Nat
  | [] => 0
  | v :: r => v.size + V.sizes r
end
theorem V.size_mem {v : V} : ∀ {l : List V}, v ∈ l → v.size ≤ V.sizes l
  | [], h => by simp at h
  | x :: l, h => by
    simp only [V.sizes]
    rcases List.mem_cons.1 h with rfl | h
    · omega
    · have := V.size_mem h; omega
theorem V.ind {P : V → Prop} (h : ∀ k n t l, (∀ v ∈ l, P v) → P (.mk k n t l)) : ∀ v, P v := by
  have : ∀ (N : Nat) (v : V), v.size ≤ N → P v := by
    intro N
    induction N with
    | zero => intro v hv; cases v; simp [V.size] at hv
    | succ N ih =>
      intro v hv
      cases v with
      | mk k n t l =>
        refine h k n t l fun x hx => ih x ?_
        have := V.size_mem hx
        simp only [V.size] at hv
        omega
  exact fun v => this v.size v (Nat.le_refl _)
end Go.Proofs.Ytldhlbjengpdbaa
namespace Go.Proofs.Ytldhlbjengpdbaa
open Go.RowKit
theorem V.all_app (l r : List V) : V.all (l ++ r) = V.all l ++ V.all r := by simp [V.all_eq]
theorem V.all_one (v : V) : V.all [v] = v.ts := by simp [V.all]
end Go.Proofs.Ytldhlbjengpdbaa
namespace Go.Proofs.Ytldhlbjengpdbaa
open Go.RowKit
theorem nth {α : Type} {l : List α} {k : Nat} (h : k < l.length) : ∃ a, l[k]? = some a := ⟨_, List.getElem?_eq_getElem h⟩
def V.args : V → List V
  | .mk _ _ _ l => l
theorem flat_snoc' {α β : Type} (f : α → List β) {l : List α} {k : Nat} {a : α} (h : l[k]? = some a) : (l.take (k + 1)).flatMap f = (l.take k).flatMap f ++ f a := by
  obtain ⟨h1, rfl⟩ := List.getElem?_eq_some_iff.1 h
  rw [List.take_succ_eq_append_getElem h1, List.flatMap_append]
  simp
end Go.Proofs.Ytldhlbjengpdbaa
namespace Go.Proofs.Ytldhlbjengpdbaa
open Go.RowKit
inductive Y where
  | mk (kind : Int) (name : ByteArray) (args : List Y)
mutual
def Y.ts : Y → List T
  | .mk k n l => [.lit (.int .i64 k), .lit (.string n), .row l.length 3 (Y.all l)]
def Y.all : List Y → List T
  | [] => []
  | v :: r => v.ts ++ Y.all r
end
theorem Y.all_eq : ∀ l : List Y, Y.all l = l.flatMap Y.ts
  | [] => rfl
  | v :: l => by rw [Y.all, Y.all_eq l]; rfl
theorem Y.ts_len : ∀ v : Y, v.ts.length = 3
  | .mk _ _ _ => rfl
def Y.row (l : List Y) : T := .row l.length 3 (Y.all l)
def Y.t (v : Y) : T := .agg v.ts
theorem Y.at {l : List Y} {k : Nat} {v : Y} (h : l[k]? = some v) : ((Y.all l).drop (k * 3)).take 3 = v.ts := by rw [Y.all_eq]; exact flat_at Y.ts 3 Y.ts_len h
theorem Y.all_app (l r : List Y) : Y.all (l ++ r) = Y.all l ++ Y.all r := by simp [Y.all_eq]
theorem Y.all_one (v : Y) : Y.all [v] = v.ts := by simp [Y.all]
mutual
def Y.size : Y → Nat
  | .mk _ n l => Y.sizes l + n.size + 1
def Y.sizes : List Y → Nat
  | [] => 0
  | v :: r => v.size + Y.sizes r
end
theorem Y.size_mem {v : Y} : ∀ {l : List Y}, v ∈ l → v.size ≤ Y.sizes l
  | [], h => by simp at h
  | x :: l, h => by
    simp only [Y.sizes]
    rcases List.mem_cons.1 h with rfl | h
    · omega
    · have := Y.size_mem h; omega
theorem Y.sizes_sum : ∀ l : List Y, Y.sizes l = (l.map Y.size).sum
  | [] => rfl
  | v :: l => by simp [Y.sizes, Y.sizes_sum l]
instance : Inhabited Y := ⟨.mk 0 ⟨#[]⟩ []⟩
theorem Y.ind {P : Y → Prop} (h : ∀ k n l, (∀ v ∈ l, P v) → P (.mk k n l)) : ∀ v, P v := by
  have : ∀ (N : Nat) (v : Y), v.size ≤ N → P v := by
    intro N
    induction N with
    | zero => intro v hv; cases v; simp [Y.size] at hv
    | succ N ih =>
      intro v hv
      cases v with
      | mk k n l =>
        refine h k n l fun x hx => ih x ?_
        have := Y.size_mem hx
        simp only [Y.size] at hv
        omega
  exact fun v => this _ v (Nat.le_refl _)
def Y.args : Y → List Y
  | .mk _ _ l => l
end Go.Proofs.Ytldhlbjengpdbaa
namespace Go.Proofs.Ytldhlbjengpdbaa
open Go.RowKit
mutual
inductive Ex where
  | mk (kind num : Int) (text : ByteArray) (names : List ByteArray) (types : List Y) (args : List Ex) (arms : List Ar) (pos : Int)
inductive Ar where
  | mk (pat : V) (body : Ex)
end
mutual
def Ex.ts : Ex → List T
  | .mk k n t ns ys l rs a => [.lit (.int .i64 k), .lit (.int .i64 n), .lit (.string t), strRow ns, Y.row ys, .row l.length 8 (Ex.all l), .row rs.length 12 (Ar.all rs), .lit (.int .i64 a)]
def Ex.all : List Ex → List T
  | [] => []
  | v :: r => v.ts ++ Ex.all r
def Ar.ts : Ar → List T
  | .mk p b => p.ts ++ b.ts
def Ar.all : List Ar → List T
  | [] => []
  | v :: r => v.ts ++ Ar.all r
end
theorem Ex.all_eq : ∀ l : List Ex, Ex.all l = l.flatMap Ex.ts
  | [] => rfl
  | v :: l => by rw [Ex.all, Ex.all_eq l]; rfl
theorem Ar.all_eq : ∀ l : List Ar, Ar.all l = l.flatMap Ar.ts
  | [] => rfl
  | v :: l => by rw [Ar.all, Ar.all_eq l]; rfl
theorem Ex.ts_len : ∀ v : Ex, v.ts.length = 8
  | .mk _ _ _ _ _ _ _ _ => rfl
theorem Ar.ts_len : ∀ v : Ar, v.ts.length = 12
  | .mk p b => by rw [Ar.ts, List.length_append, V.ts_len, Ex.ts_len]
def Ex.row (l : List Ex) : T := .row l.length 8 (Ex.all l)
def Ex.t (v : Ex) : T := .agg v.ts
def Ar.row (l : List Ar) : T := .row l.length 12 (Ar.all l)
theorem Ex.at {l : List Ex} {k : Nat} {v : Ex} (h : l[k]? = some v) : ((Ex.all l).drop (k * 8)).take 8 = v.ts := by rw [Ex.all_eq]; exact flat_at Ex.ts 8 Ex.ts_len h
theorem Ar.at {l : List Ar} {k : Nat} {v : Ar} (h : l[k]? = some v) : ((Ar.all l).drop (k * 12)).take 12 = v.ts := by rw [Ar.all_eq]; exact flat_at Ar.ts 12 Ar.ts_len h
theorem Ex.all_app (l r : List Ex) : Ex.all (l ++ r) = Ex.all l ++ Ex.all r := by simp [Ex.all_eq]
theorem Ex.all_one (v : Ex) : Ex.all [v] = v.ts := by simp [Ex.all]
theorem V.all_app' (l r : List V) : V.all (l ++ r) = V.all l ++ V.all r := by simp [V.all_eq]
def strSize (l : List ByteArray) : Nat := (l.map fun s => s.size + 1).sum
mutual
def Ex.size : Ex → Nat
  | .mk _ _ t ns ys l rs _ => t.size + strSize ns + Y.sizes ys + Ex.sizes l + Ar.sizes rs + 1
def Ex.sizes : List Ex → Nat
  | [] => 0
  | v :: r => v.size + Ex.sizes r
def Ar.size : Ar → Nat
  | .mk p b => p.size + b.size
def Ar.sizes : List Ar → Nat
  | [] => 0
  | v :: r => v.size + Ar.sizes r
end
theorem Ex.sizes_sum : ∀ l : List Ex, Ex.sizes l = (l.map Ex.size).sum
  | [] => rfl
  | v :: l => by simp [Ex.sizes, Ex.sizes_sum l]
theorem Ar.sizes_sum : ∀ l : List Ar, Ar.sizes l = (l.map Ar.size).sum
  | [] => rfl
  | v :: l => by simp [Ar.sizes, Ar.sizes_sum l]
theorem sum_mem' {α : Type} (μ : α → Nat) : ∀ {l : List α} {a : α}, a ∈ l → μ a ≤ (l.map μ).sum
  | [], _, h => by simp at h
  | x :: l, a, h => by
    simp only [List.map_cons, List.sum_cons]
    rcases List.mem_cons.1 h with rfl | h
    · omega
    · have := sum_mem' μ h; omega
theorem len_sum' {α : Type} (μ : α → Nat) (h : ∀ a, 1 ≤ μ a) : ∀ l : List α, l.length ≤ (l.map μ).sum
  | [] => by simp
  | x :: l => by have := h x; have := len_sum' μ h l; simp only [List.map_cons, List.sum_cons, List.length_cons]; omega
theorem Ex.size_mem {v : Ex} {l : List Ex} (h : v ∈ l) : v.size ≤ Ex.sizes l := by rw [Ex.sizes_sum]; exact sum_mem' Ex.size h
theorem Ar.size_mem {v : Ar} {l : List Ar} (h : v ∈ l) : v.size ≤ Ar.sizes l := by rw [Ar.sizes_sum]; exact sum_mem' Ar.size h
theorem Ex.size_pos : ∀ v : Ex, 1 ≤ v.size
  | .mk _ _ _ _ _ _ _ _ => by simp only [Ex.size]; omega
theorem Ar.size_pos : ∀ v : Ar, 1 ≤ v.size
  | .mk p b => by have := b.size_pos; simp only [Ar.size]; omega
theorem strSize_len (l : List ByteArray) : l.length ≤ strSize l := len_sum' (fun s : ByteArray => s.size + 1) (fun _ => by omega) l
instance : Inhabited Ex := ⟨.mk 0 0 ⟨#[]⟩ [] [] [] [] 0⟩
instance : Inhabited Ar := ⟨.mk (.mk 0 0 ⟨#[]⟩ []) default⟩
structure Us where
  name : ByteArray
  low : Int
  high : Int
def Us.ts : Us → List T
  | ⟨f_name, f_low, f_high⟩ => [.lit (.string f_name), .lit (.int .i64 f_low), .lit (.int .i64 f_high)]
theorem Us.ts_len (x : Us) : x.ts.length = 3 := by simp [Us.ts]
def Us.t (x : Us) : T := .agg x.ts
def Us.row (l : List Us) : T := .row l.length 3 (l.flatMap Us.ts)
theorem Us.at {l : List Us} {k : Nat} {x : Us} (h : l[k]? = some x) : ((l.flatMap Us.ts).drop (k * 3)).take 3 = x.ts := flat_at Us.ts 3 Us.ts_len h
def Us.size : Us → Nat
  | ⟨f_name, _, _⟩ => f_name.size + 1
def Us.sizes (l : List Us) : Nat := (l.map Us.size).sum
theorem Us.size_mem {x : Us} {l : List Us} (h : x ∈ l) : x.size ≤ Us.sizes l := sum_mem' Us.size h
instance : Inhabited Us := ⟨⟨⟨#[]⟩, 0, 0⟩⟩
structure Mk where
  name : ByteArray
  args : List Y
def Mk.ts : Mk → List T
  | ⟨f_name, f_args⟩ => [.lit (.string f_name), Y.row f_args]
theorem Mk.ts_len (x : Mk) : x.ts.length = 2 := by simp [Mk.ts]
def Mk.t (x : Mk) : T := .agg x.ts
def Mk.row (l : List Mk) : T := .row l.length 2 (l.flatMap Mk.ts)
theorem Mk.at {l : List Mk} {k : Nat} {x : Mk} (h : l[k]? = some x) : ((l.flatMap Mk.ts).drop (k * 2)).take 2 = x.ts := flat_at Mk.ts 2 Mk.ts_len h
def Mk.size : Mk → Nat
  | ⟨f_name, f_args⟩ => f_name.size + Y.sizes f_args + 1
def Mk.sizes (l : List Mk) : Nat := (l.map Mk.size).sum
theorem Mk.size_mem {x : Mk} {l : List Mk} (h : x ∈ l) : x.size ≤ Mk.sizes l := sum_mem' Mk.size h
instance : Inhabited Mk := ⟨⟨⟨#[]⟩, []⟩⟩
structure Da where
  name : ByteArray
  params : List ByteArray
  makes : List Mk
def Da.ts : Da → List T
  | ⟨f_name, f_params, f_makes⟩ => [.lit (.string f_name), strRow f_params, Mk.row f_makes]
theorem Da.ts_len (x : Da) : x.ts.length = 3 := by simp [Da.ts]
def Da.t (x : Da) : T := .agg x.ts
def Da.row (l : List Da) : T := .row l.length 3 (l.flatMap Da.ts)
theorem Da.at {l : List Da} {k : Nat} {x : Da} (h : l[k]? = some x) : ((l.flatMap Da.ts).drop (k * 3)).take 3 = x.ts := flat_at Da.ts 3 Da.ts_len h
def Da.size : Da → Nat
  | ⟨f_name, f_params, f_makes⟩ => f_name.size + strSize f_params + Mk.sizes f_makes + 1
def Da.sizes (l : List Da) : Nat := (l.map Da.size).sum
theorem Da.size_mem {x : Da} {l : List Da} (h : x ∈ l) : x.size ≤ Da.sizes l := sum_mem' Da.size h
instance : Inhabited Da := ⟨⟨⟨#[]⟩, [], []⟩⟩
structure Fu where
  name : ByteArray
  params : List ByteArray
  names : List ByteArray
  types : List Y
  out : Y
  body : Ex
def Fu.ts : Fu → List T
  | ⟨f_name, f_params, f_names, f_types, f_out, f_body⟩ => [.lit (.string f_name), strRow f_params, strRow f_names, Y.row f_types] ++ f_out.ts ++ f_body.ts
theorem Fu.ts_len (x : Fu) : x.ts.length = 15 := by simp [Fu.ts, Ex.ts_len, Y.ts_len]
def Fu.t (x : Fu) : T := .agg x.ts
def Fu.row (l : List Fu) : T := .row l.length 15 (l.flatMap Fu.ts)
theorem Fu.at {l : List Fu} {k : Nat} {x : Fu} (h : l[k]? = some x) : ((l.flatMap Fu.ts).drop (k * 15)).take 15 = x.ts := flat_at Fu.ts 15 Fu.ts_len h
def Fu.size : Fu → Nat
  | ⟨f_name, f_params, f_names, f_types, f_out, f_body⟩ => f_name.size + strSize f_params + strSize f_names + Y.sizes f_types + f_out.size + f_body.size + 1
def Fu.sizes (l : List Fu) : Nat := (l.map Fu.size).sum
theorem Fu.size_mem {x : Fu} {l : List Fu} (h : x ∈ l) : x.size ≤ Fu.sizes l := sum_mem' Fu.size h
instance : Inhabited Fu := ⟨⟨⟨#[]⟩, [], [], [], default, default⟩⟩
structure Tr where
  name : ByteArray
  funcs : List Fu
def Tr.ts : Tr → List T
  | ⟨f_name, f_funcs⟩ => [.lit (.string f_name), Fu.row f_funcs]
theorem Tr.ts_len (x : Tr) : x.ts.length = 2 := by simp [Tr.ts]
def Tr.t (x : Tr) : T := .agg x.ts
def Tr.row (l : List Tr) : T := .row l.length 2 (l.flatMap Tr.ts)
theorem Tr.at {l : List Tr} {k : Nat} {x : Tr} (h : l[k]? = some x) : ((l.flatMap Tr.ts).drop (k * 2)).take 2 = x.ts := flat_at Tr.ts 2 Tr.ts_len h
def Tr.size : Tr → Nat
  | ⟨f_name, f_funcs⟩ => f_name.size + Fu.sizes f_funcs + 1
def Tr.sizes (l : List Tr) : Nat := (l.map Tr.size).sum
theorem Tr.size_mem {x : Tr} {l : List Tr} (h : x ∈ l) : x.size ≤ Tr.sizes l := sum_mem' Tr.size h
instance : Inhabited Tr := ⟨⟨⟨#[]⟩, []⟩⟩
structure Im where
  trait : ByteArray
  dat : ByteArray
  funcs : List Fu
def Im.ts : Im → List T
  | ⟨f_trait, f_dat, f_funcs⟩ => [.lit (.string f_trait), .lit (.string f_dat), Fu.row f_funcs]
theorem Im.ts_len (x : Im) : x.ts.length = 3 := by simp [Im.ts]
def Im.t (x : Im) : T := .agg x.ts
def Im.row (l : List Im) : T := .row l.length 3 (l.flatMap Im.ts)
theorem Im.at {l : List Im} {k : Nat} {x : Im} (h : l[k]? = some x) : ((l.flatMap Im.ts).drop (k * 3)).take 3 = x.ts := flat_at Im.ts 3 Im.ts_len h
def Im.size : Im → Nat
  | ⟨f_trait, f_dat, f_funcs⟩ => f_trait.size + f_dat.size + Fu.sizes f_funcs + 1
def Im.sizes (l : List Im) : Nat := (l.map Im.size).sum
theorem Im.size_mem {x : Im} {l : List Im} (h : x ∈ l) : x.size ≤ Im.sizes l := sum_mem' Im.size h
instance : Inhabited Im := ⟨⟨⟨#[]⟩, ⟨#[]⟩, []⟩⟩
structure Ac where
  name : ByteArray
  names : List ByteArray
  types : List Y
  msg : Y
  body : Ex
def Ac.ts : Ac → List T
  | ⟨f_name, f_names, f_types, f_msg, f_body⟩ => [.lit (.string f_name), strRow f_names, Y.row f_types] ++ f_msg.ts ++ f_body.ts
theorem Ac.ts_len (x : Ac) : x.ts.length = 14 := by simp [Ac.ts, Ex.ts_len, Y.ts_len]
def Ac.t (x : Ac) : T := .agg x.ts
def Ac.row (l : List Ac) : T := .row l.length 14 (l.flatMap Ac.ts)
theorem Ac.at {l : List Ac} {k : Nat} {x : Ac} (h : l[k]? = some x) : ((l.flatMap Ac.ts).drop (k * 14)).take 14 = x.ts := flat_at Ac.ts 14 Ac.ts_len h
def Ac.size : Ac → Nat
  | ⟨f_name, f_names, f_types, f_msg, f_body⟩ => f_name.size + strSize f_names + Y.sizes f_types + f_msg.size + f_body.size + 1
def Ac.sizes (l : List Ac) : Nat := (l.map Ac.size).sum
theorem Ac.size_mem {x : Ac} {l : List Ac} (h : x ∈ l) : x.size ≤ Ac.sizes l := sum_mem' Ac.size h
instance : Inhabited Ac := ⟨⟨⟨#[]⟩, [], [], default, default⟩⟩
structure Pr where
  name : ByteArray
  version : Int
  uses : List Us
  datas : List Da
  traits : List Tr
  impls : List Im
  funcs : List Fu
  actors : List Ac
def Pr.ts : Pr → List T
  | ⟨f_name, f_version, f_uses, f_datas, f_traits, f_impls, f_funcs, f_actors⟩ => [.lit (.string f_name), .lit (.int .i64 f_version), Us.row f_uses, Da.row f_datas, Tr.row f_traits, Im.row f_impls, Fu.row f_funcs, Ac.row f_actors]
theorem Pr.ts_len (x : Pr) : x.ts.length = 8 := by simp [Pr.ts]
def Pr.t (x : Pr) : T := .agg x.ts
def Pr.row (l : List Pr) : T := .row l.length 8 (l.flatMap Pr.ts)
theorem Pr.at {l : List Pr} {k : Nat} {x : Pr} (h : l[k]? = some x) : ((l.flatMap Pr.ts).drop (k * 8)).take 8 = x.ts := flat_at Pr.ts 8 Pr.ts_len h
def Pr.size : Pr → Nat
  | ⟨f_name, _, f_uses, f_datas, f_traits, f_impls, f_funcs, f_actors⟩ => f_name.size + Us.sizes f_uses + Da.sizes f_datas + Tr.sizes f_traits + Im.sizes f_impls + Fu.sizes f_funcs + Ac.sizes f_actors + 1
def Pr.sizes (l : List Pr) : Nat := (l.map Pr.size).sum
theorem Pr.size_mem {x : Pr} {l : List Pr} (h : x ∈ l) : x.size ≤ Pr.sizes l := sum_mem' Pr.size h
instance : Inhabited Pr := ⟨⟨⟨#[]⟩, 0, [], [], [], [], [], []⟩⟩
end Go.Proofs.Ytldhlbjengpdbaa
