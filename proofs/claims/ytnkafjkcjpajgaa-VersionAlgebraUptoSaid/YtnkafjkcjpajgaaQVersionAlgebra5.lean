/-
  Texts of this proof, part 5: Ab26 Ab27 Ab20 Ab22 Ab23 Ab24 Ab29 Vaa Vab Ab30 Ab33.
-/
import Derived.Test.YtnkafjkcjpajgaaQVersionAlgebra4
import Derived.Laws.IdiomRangeMap
import Derived.Laws.Strings2
import Derived.Lib.AppendStr
import Derived.Lib.MinMax
import Derived.MapKept
namespace Go.Proofs.Ytnkafjkcjpajgaa
open Go.RowKit
structure Hold (G : Prop) : Prop where
  out : G
/-- operations and control, asq far asq they are plain -/
theorem gG {G G' : Prop} (h : G') (e : Hold G' → G := by
    intro h
    first | refine zNil ?_ | refine zOp ?_ | refine zOpn ?_ | refine zNo ?_ | refine zNon ?_ | refine zUn ?_ | refine zUnn ?_ | refine zYes ?_ | refine zYesn ?_ | (refine zkL ?_; first | refine zL1 ?_ | refine zL2 ?_ | refine zL3 ?_ | refine zLp ?_) | refine zM ?_ | (refine zkF ?_; first | refine zF1 ?_ | refine zF2 ?_ | refine zF3 ?_) | refine zA ?_ | (refine zkB ?_; first | refine zC5 ?_ | refine zC6 ?_ | refine zC1 ?_ | refine zC2 ?_ | refine zC3 ?_ | refine zC4 ?_ | refine zS5 ?_ | refine zS6 ?_ | refine zS1 ?_ | refine zS2 ?_ | refine zS3 ?_ | refine zS4 ?_ | refine zInc ?_ | refine zQ1 ?_ | refine zQ2 ?_ | refine zQ3 ?_ | refine zQ4 ?_ | refine zQ5 ?_ | refine zQ6 ?_) | (refine zkI ?_; first | refine zN3 ?_ | refine zN4 ?_) | refine zS ?_ | refine zPt ?_ | refine zPf ?_ | refine zE ?_ | refine zEA ?_ | refine zNot ?_ | refine zBd ?_ | refine zFn ?_ | refine zK1 ?_ | refine zK2 ?_ | refine zBs ?_ | refine ac_seq ?_ | refine ac_block ?_ | refine ac_region ?_ | refine ac_skip ?_ | refine ac_exit ?_ | refine ac_ret ?_ | refine zT ?_ | refine zF ?_
    repeat (first | refine zNil ?_ | refine zOp ?_ | refine zOpn ?_ | refine zNo ?_ | refine zNon ?_ | refine zUn ?_ | refine zUnn ?_ | refine zYes ?_ | refine zYesn ?_ | (refine zkL ?_; first | refine zL1 ?_ | refine zL2 ?_ | refine zL3 ?_ | refine zLp ?_) | refine zM ?_ | (refine zkF ?_; first | refine zF1 ?_ | refine zF2 ?_ | refine zF3 ?_) | refine zA ?_ | (refine zkB ?_; first | refine zC5 ?_ | refine zC6 ?_ | refine zC1 ?_ | refine zC2 ?_ | refine zC3 ?_ | refine zC4 ?_ | refine zS5 ?_ | refine zS6 ?_ | refine zS1 ?_ | refine zS2 ?_ | refine zS3 ?_ | refine zS4 ?_ | refine zInc ?_ | refine zQ1 ?_ | refine zQ2 ?_ | refine zQ3 ?_ | refine zQ4 ?_ | refine zQ5 ?_ | refine zQ6 ?_) | (refine zkI ?_; first | refine zN3 ?_ | refine zN4 ?_) | refine zS ?_ | refine zPt ?_ | refine zPf ?_ | refine zE ?_ | refine zEA ?_ | refine zNot ?_ | refine zBd ?_ | refine zFn ?_ | refine zK1 ?_ | refine zK2 ?_ | refine zBs ?_ | refine ac_seq ?_ | refine ac_block ?_ | refine ac_region ?_ | refine ac_skip ?_ | refine ac_exit ?_ | refine ac_ret ?_ | refine zT ?_ | refine zF ?_)
    exact h.out) : G := e ⟨h⟩
/-- the same, but no rows that are written out -/
theorem gX {G G' : Prop} (h : G') (e : Hold G' → G := by
    intro h
    first | refine zNil ?_ | refine zOp ?_ | refine zOpn ?_ | refine zNo ?_ | refine zNon ?_ | refine zUn ?_ | refine zUnn ?_ | refine zYes ?_ | refine zYesn ?_ | (refine zkL ?_; first | refine zL1 ?_ | refine zL2 ?_ | refine zL3 ?_ | refine zLp ?_) | refine zM ?_ | (refine zkF ?_; first | refine zF1 ?_ | refine zF2 ?_ | refine zF3 ?_) | refine zA ?_ | (refine zkB ?_; first | refine zC5 ?_ | refine zC6 ?_ | refine zC1 ?_ | refine zC2 ?_ | refine zC3 ?_ | refine zC4 ?_ | refine zS5 ?_ | refine zS6 ?_ | refine zS1 ?_ | refine zS2 ?_ | refine zS3 ?_ | refine zS4 ?_ | refine zInc ?_ | refine zQ1 ?_ | refine zQ2 ?_ | refine zQ3 ?_ | refine zQ4 ?_ | refine zQ5 ?_ | refine zQ6 ?_) | (refine zkI ?_; first | refine zN3 ?_ | refine zN4 ?_) | refine zS ?_ | refine zPt ?_ | refine zPf ?_ | refine zE ?_ | refine zEA ?_ | refine zNot ?_ | refine zBd ?_ | refine zFn ?_ | refine zK1 ?_ | refine zK2 ?_ | refine ac_seq ?_ | refine ac_block ?_ | refine ac_region ?_ | refine ac_skip ?_ | refine ac_exit ?_ | refine ac_ret ?_ | refine zT ?_ | refine zF ?_
    repeat (first | refine zNil ?_ | refine zOp ?_ | refine zOpn ?_ | refine zNo ?_ | refine zNon ?_ | refine zUn ?_ | refine zUnn ?_ | refine zYes ?_ | refine zYesn ?_ | (refine zkL ?_; first | refine zL1 ?_ | refine zL2 ?_ | refine zL3 ?_ | refine zLp ?_) | refine zM ?_ | (refine zkF ?_; first | refine zF1 ?_ | refine zF2 ?_ | refine zF3 ?_) | refine zA ?_ | (refine zkB ?_; first | refine zC5 ?_ | refine zC6 ?_ | refine zC1 ?_ | refine zC2 ?_ | refine zC3 ?_ | refine zC4 ?_ | refine zS5 ?_ | refine zS6 ?_ | refine zS1 ?_ | refine zS2 ?_ | refine zS3 ?_ | refine zS4 ?_ | refine zInc ?_ | refine zQ1 ?_ | refine zQ2 ?_ | refine zQ3 ?_ | refine zQ4 ?_ | refine zQ5 ?_ | refine zQ6 ?_) | (refine zkI ?_; first | refine zN3 ?_ | refine zN4 ?_) | refine zS ?_ | refine zPt ?_ | refine zPf ?_ | refine zE ?_ | refine zEA ?_ | refine zNot ?_ | refine zBd ?_ | refine zFn ?_ | refine zK1 ?_ | refine zK2 ?_ | refine ac_seq ?_ | refine ac_block ?_ | refine ac_region ?_ | refine ac_skip ?_ | refine ac_exit ?_ | refine ac_ret ?_ | refine zT ?_ | refine zF ?_)
    exact h.out) : G := e ⟨h⟩
/-- operations alone -/
theorem gO {G G' : Prop} (h : G') (e : Hold G' → G := by
    intro h
    first | refine zNil ?_ | refine zOp ?_ | refine zOpn ?_ | refine zNo ?_ | refine zNon ?_ | refine zUn ?_ | refine zUnn ?_ | refine zYes ?_ | refine zYesn ?_ | (refine zkL ?_; first | refine zL1 ?_ | refine zL2 ?_ | refine zL3 ?_ | refine zLp ?_) | refine zM ?_ | (refine zkF ?_; first | refine zF1 ?_ | refine zF2 ?_ | refine zF3 ?_) | refine zA ?_ | (refine zkB ?_; first | refine zC5 ?_ | refine zC6 ?_ | refine zC1 ?_ | refine zC2 ?_ | refine zC3 ?_ | refine zC4 ?_ | refine zS5 ?_ | refine zS6 ?_ | refine zS1 ?_ | refine zS2 ?_ | refine zS3 ?_ | refine zS4 ?_ | refine zInc ?_ | refine zQ1 ?_ | refine zQ2 ?_ | refine zQ3 ?_ | refine zQ4 ?_ | refine zQ5 ?_ | refine zQ6 ?_) | (refine zkI ?_; first | refine zN3 ?_ | refine zN4 ?_) | refine zS ?_ | refine zPt ?_ | refine zPf ?_ | refine zE ?_ | refine zEA ?_ | refine zNot ?_ | refine zBd ?_ | refine zFn ?_ | refine zK1 ?_ | refine zK2 ?_ | refine zBs ?_
    repeat (first | refine zNil ?_ | refine zOp ?_ | refine zOpn ?_ | refine zNo ?_ | refine zNon ?_ | refine zUn ?_ | refine zUnn ?_ | refine zYes ?_ | refine zYesn ?_ | (refine zkL ?_; first | refine zL1 ?_ | refine zL2 ?_ | refine zL3 ?_ | refine zLp ?_) | refine zM ?_ | (refine zkF ?_; first | refine zF1 ?_ | refine zF2 ?_ | refine zF3 ?_) | refine zA ?_ | (refine zkB ?_; first | refine zC5 ?_ | refine zC6 ?_ | refine zC1 ?_ | refine zC2 ?_ | refine zC3 ?_ | refine zC4 ?_ | refine zS5 ?_ | refine zS6 ?_ | refine zS1 ?_ | refine zS2 ?_ | refine zS3 ?_ | refine zS4 ?_ | refine zInc ?_ | refine zQ1 ?_ | refine zQ2 ?_ | refine zQ3 ?_ | refine zQ4 ?_ | refine zQ5 ?_ | refine zQ6 ?_) | (refine zkI ?_; first | refine zN3 ?_ | refine zN4 ?_) | refine zS ?_ | refine zPt ?_ | refine zPf ?_ | refine zE ?_ | refine zEA ?_ | refine zNot ?_ | refine zBd ?_ | refine zFn ?_ | refine zK1 ?_ | refine zK2 ?_ | refine zBs ?_)
    exact h.out) : G := e ⟨h⟩
/-- operations of a region that draws, asq long asq they only look -/
theorem gW {G G' : Prop} (h : G') (e : Hold G' → G := by
    intro h
    first | (apply w_q; (focus exact rfl); (focus exact rfl); focus (intro _; (first | (refine zkL ?_; first | refine zL1 ?_ | refine zL2 ?_ | refine zL3 ?_ | refine zLp ?_) | refine zM ?_ | (refine zkF ?_; first | refine zF1 ?_ | refine zF2 ?_ | refine zF3 ?_) | refine zA ?_ | (refine zkB ?_; first | refine zC5 ?_ | refine zC6 ?_ | refine zC1 ?_ | refine zC2 ?_ | refine zC3 ?_ | refine zC4 ?_ | refine zS5 ?_ | refine zS6 ?_ | refine zS1 ?_ | refine zS2 ?_ | refine zS3 ?_ | refine zS4 ?_ | refine zInc ?_ | refine zQ1 ?_ | refine zQ2 ?_ | refine zQ3 ?_ | refine zQ4 ?_ | refine zQ5 ?_ | refine zQ6 ?_) | (refine zkI ?_; first | refine zN3 ?_ | refine zN4 ?_) | refine zPt ?_ | refine zPf ?_ | refine zE ?_ | refine zEA ?_ | refine zNot ?_ | refine zBd ?_ | refine zBs ?_ | refine zFn ?_ | refine zK1 ?_ | refine zK2 ?_ | (refine zkI ?_; first | refine zN1 (fun _ => ?_) | refine zN2 (fun _ => ?_))); exact det_refl)) | (apply w_p; (focus exact rfl); (focus exact rfl); focus (intro _; (first | (refine zkL ?_; first | refine zL1 ?_ | refine zL2 ?_ | refine zL3 ?_ | refine zLp ?_) | refine zM ?_ | (refine zkF ?_; first | refine zF1 ?_ | refine zF2 ?_ | refine zF3 ?_) | refine zA ?_ | (refine zkB ?_; first | refine zC5 ?_ | refine zC6 ?_ | refine zC1 ?_ | refine zC2 ?_ | refine zC3 ?_ | refine zC4 ?_ | refine zS5 ?_ | refine zS6 ?_ | refine zS1 ?_ | refine zS2 ?_ | refine zS3 ?_ | refine zS4 ?_ | refine zInc ?_ | refine zQ1 ?_ | refine zQ2 ?_ | refine zQ3 ?_ | refine zQ4 ?_ | refine zQ5 ?_ | refine zQ6 ?_) | (refine zkI ?_; first | refine zN3 ?_ | refine zN4 ?_) | refine zPt ?_ | refine zPf ?_ | refine zE ?_ | refine zEA ?_ | refine zNot ?_ | refine zBd ?_ | refine zBs ?_ | refine zFn ?_ | refine zK1 ?_ | refine zK2 ?_ | (refine zkI ?_; first | refine zN1 (fun _ => ?_) | refine zN2 (fun _ => ?_))); exact det_refl)) | (apply w_un; (focus exact rfl); (focus exact rfl); (focus exact rfl); (focus exact rfl)) | (apply w_no; (focus exact rfl); (focus exact rfl); (focus exact rfl); (focus exact rfl); focus (first | rfl | assumption | exact neg_t (by assumption) | exact neg_f (by assumption))) | (apply w_qg; (focus exact rfl); (focus exact rfl); (focus exact rfl); (focus exact rfl); (focus (first | rfl | assumption | exact neg_t (by assumption) | exact neg_f (by assumption))); (focus (intro _; (first | (refine zkL ?_; first | refine zL1 ?_ | refine zL2 ?_ | refine zL3 ?_ | refine zLp ?_) | refine zM ?_ | (refine zkF ?_; first | refine zF1 ?_ | refine zF2 ?_ | refine zF3 ?_) | refine zA ?_ | (refine zkB ?_; first | refine zC5 ?_ | refine zC6 ?_ | refine zC1 ?_ | refine zC2 ?_ | refine zC3 ?_ | refine zC4 ?_ | refine zS5 ?_ | refine zS6 ?_ | refine zS1 ?_ | refine zS2 ?_ | refine zS3 ?_ | refine zS4 ?_ | refine zInc ?_ | refine zQ1 ?_ | refine zQ2 ?_ | refine zQ3 ?_ | refine zQ4 ?_ | refine zQ5 ?_ | refine zQ6 ?_) | (refine zkI ?_; first | refine zN3 ?_ | refine zN4 ?_) | refine zPt ?_ | refine zPf ?_ | refine zE ?_ | refine zEA ?_ | refine zNot ?_ | refine zBd ?_ | refine zBs ?_ | refine zFn ?_ | refine zK1 ?_ | refine zK2 ?_ | (refine zkI ?_; first | refine zN1 (fun _ => ?_) | refine zN2 (fun _ => ?_))); exact det_refl)))
    repeat (first | (apply w_q; (focus exact rfl); (focus exact rfl); focus (intro _; (first | (refine zkL ?_; first | refine zL1 ?_ | refine zL2 ?_ | refine zL3 ?_ | refine zLp ?_) | refine zM ?_ | (refine zkF ?_; first | refine zF1 ?_ | refine zF2 ?_ | refine zF3 ?_) | refine zA ?_ | (refine zkB ?_; first | refine zC5 ?_ | refine zC6 ?_ | refine zC1 ?_ | refine zC2 ?_ | refine zC3 ?_ | refine zC4 ?_ | refine zS5 ?_ | refine zS6 ?_ | refine zS1 ?_ | refine zS2 ?_ | refine zS3 ?_ | refine zS4 ?_ | refine zInc ?_ | refine zQ1 ?_ | refine zQ2 ?_ | refine zQ3 ?_ | refine zQ4 ?_ | refine zQ5 ?_ | refine zQ6 ?_) | (refine zkI ?_; first | refine zN3 ?_ | refine zN4 ?_) | refine zPt ?_ | refine zPf ?_ | refine zE ?_ | refine zEA ?_ | refine zNot ?_ | refine zBd ?_ | refine zBs ?_ | refine zFn ?_ | refine zK1 ?_ | refine zK2 ?_ | (refine zkI ?_; first | refine zN1 (fun _ => ?_) | refine zN2 (fun _ => ?_))); exact det_refl)) | (apply w_p; (focus exact rfl); (focus exact rfl); focus (intro _; (first | (refine zkL ?_; first | refine zL1 ?_ | refine zL2 ?_ | refine zL3 ?_ | refine zLp ?_) | refine zM ?_ | (refine zkF ?_; first | refine zF1 ?_ | refine zF2 ?_ | refine zF3 ?_) | refine zA ?_ | (refine zkB ?_; first | refine zC5 ?_ | refine zC6 ?_ | refine zC1 ?_ | refine zC2 ?_ | refine zC3 ?_ | refine zC4 ?_ | refine zS5 ?_ | refine zS6 ?_ | refine zS1 ?_ | refine zS2 ?_ | refine zS3 ?_ | refine zS4 ?_ | refine zInc ?_ | refine zQ1 ?_ | refine zQ2 ?_ | refine zQ3 ?_ | refine zQ4 ?_ | refine zQ5 ?_ | refine zQ6 ?_) | (refine zkI ?_; first | refine zN3 ?_ | refine zN4 ?_) | refine zPt ?_ | refine zPf ?_ | refine zE ?_ | refine zEA ?_ | refine zNot ?_ | refine zBd ?_ | refine zBs ?_ | refine zFn ?_ | refine zK1 ?_ | refine zK2 ?_ | (refine zkI ?_; first | refine zN1 (fun _ => ?_) | refine zN2 (fun _ => ?_))); exact det_refl)) | (apply w_un; (focus exact rfl); (focus exact rfl); (focus exact rfl); (focus exact rfl)) | (apply w_no; (focus exact rfl); (focus exact rfl); (focus exact rfl); (focus exact rfl); focus (first | rfl | assumption | exact neg_t (by assumption) | exact neg_f (by assumption))) | (apply w_qg; (focus exact rfl); (focus exact rfl); (focus exact rfl); (focus exact rfl); (focus (first | rfl | assumption | exact neg_t (by assumption) | exact neg_f (by assumption))); (focus (intro _; (first | (refine zkL ?_; first | refine zL1 ?_ | refine zL2 ?_ | refine zL3 ?_ | refine zLp ?_) | refine zM ?_ | (refine zkF ?_; first | refine zF1 ?_ | refine zF2 ?_ | refine zF3 ?_) | refine zA ?_ | (refine zkB ?_; first | refine zC5 ?_ | refine zC6 ?_ | refine zC1 ?_ | refine zC2 ?_ | refine zC3 ?_ | refine zC4 ?_ | refine zS5 ?_ | refine zS6 ?_ | refine zS1 ?_ | refine zS2 ?_ | refine zS3 ?_ | refine zS4 ?_ | refine zInc ?_ | refine zQ1 ?_ | refine zQ2 ?_ | refine zQ3 ?_ | refine zQ4 ?_ | refine zQ5 ?_ | refine zQ6 ?_) | (refine zkI ?_; first | refine zN3 ?_ | refine zN4 ?_) | refine zPt ?_ | refine zPf ?_ | refine zE ?_ | refine zEA ?_ | refine zNot ?_ | refine zBd ?_ | refine zBs ?_ | refine zFn ?_ | refine zK1 ?_ | refine zK2 ?_ | (refine zkI ?_; first | refine zN1 (fun _ => ?_) | refine zN2 (fun _ => ?_))); exact det_refl))))
    exact h.out) : G := e ⟨h⟩
end Go.Proofs.Ytnkafjkcjpajgaa
namespace Go.Proofs.Ytnkafjkcjpajgaa
open Go.RowKit
section
variable {P : Program} {F : Frm} {d : Option Tmp} {ty : TypeId} {pos : String} {aft : Array Edge} {g : Option (Nat × Bool)} {ρ : Operand → AV} {hp : List Blk} {K : AV → List Blk → Prop}
theorem zMin {x y : Operand} {t t' : TypeId} {k k' : IntKind} {a b : Int} (h : K (.c (.lit (.int k (min a b)))) hp) (hx : ρ x = .c (.lit (.int k a)) := by exact rfl) (hy : ρ y = .c (.lit (.int k' b)) := by exact rfl) : LO P F ⟨d, .call { callee := .builtin .min, args := #[x, y], argTypes := #[t, t'] }, ty, pos, aft, g⟩ ρ hp K := by
  refine LO.same (fun M e w he hh => ?_) h
  have h1 := he x (by simp [Op.operands, Call.operands])
  have h2 := he y (by simp [Op.operands, Call.operands])
  rw [hx] at h1
  rw [hy] at h2
  simp only [RA, RT] at h1 h2
  refine ⟨.int k (min a b), ?_, by simp only [RA, RT]⟩
  simp [execOp, resolve, invoke, builtin, h1, h2, Go.Lib.run_min_ints]
theorem zMax {x y : Operand} {t t' : TypeId} {k k' : IntKind} {a b : Int} (h : K (.c (.lit (.int k (max a b)))) hp) (hx : ρ x = .c (.lit (.int k a)) := by exact rfl) (hy : ρ y = .c (.lit (.int k' b)) := by exact rfl) : LO P F ⟨d, .call { callee := .builtin .max, args := #[x, y], argTypes := #[t, t'] }, ty, pos, aft, g⟩ ρ hp K := by
  refine LO.same (fun M e w he hh => ?_) h
  have h1 := he x (by simp [Op.operands, Call.operands])
  have h2 := he y (by simp [Op.operands, Call.operands])
  rw [hx] at h1
  rw [hy] at h2
  simp only [RA, RT] at h1 h2
  refine ⟨.int k (max a b), ?_, by simp only [RA, RT]⟩
  simp [execOp, resolve, invoke, builtin, h1, h2, Go.Lib.run_max_ints]
end
end Go.Proofs.Ytnkafjkcjpajgaa
namespace Go.Proofs.Ytnkafjkcjpajgaa
open Go.RowKit
theorem HeapOk.take {F : Frm} {M : Mm} {hp : List Blk} {w : World} (h : HeapOk F M hp w) (k : Nat) : HeapOk F M (hp.take k) w := by
  have hg : ∀ (i : Nat) (x : Blk), (hp.take k)[i]? = some x → hp[i]? = some x := by
    intro i x hx
    rw [List.getElem?_take] at hx
    split at hx
    · exact hx
    · cases hx
  exact ⟨h.mem, h.ext, h.frm, fun i x hx => h.at_ i x (hg i x hx), fun i j x y b hx hy => h.sep i j x y b (hg i x hx) (hg j y hy), fun i x b hx => h.out i x b (hg i x hx)⟩
/-- the function, given values that read so and blocks of the caller's own, returns a value that reads so, the blocks turned -/
def AG (P : Program) (f : FuncId) (asq : List AV) (hs : List Blk) (R : AV → List Blk → Prop) : Prop :=
  Enters P f ∧ ∀ (F : Frm) (M : Mm) (w : World) (vs : List Value), HeapOk F M hs w → RAs M asq vs →
    Calls P f vs.toArray w fun e w' => ∃ v r hs' M', e = .returned v ∧ R r hs' ∧ Ext F.may M M' ∧ HeapOk F M' hs' w' ∧ RA M' r v
theorem AG.imp {P : Program} {f : FuncId} {asq : List AV} {hs : List Blk} {R R' : AV → List Blk → Prop} (h : AG P f asq hs R) (hi : ∀ r hs, R r hs → R' r hs) : AG P f asq hs R' :=
  ⟨h.1, fun F M w vs hM hv => (h.2 F M w vs hM hv).mono fun _ _ ⟨v, r, hs', M', h1, h2, h3⟩ => ⟨v, r, hs', M', h1, hi r hs' h2, h3⟩⟩
/-- the end of such a function: the first k blocks are handed back -/
structure FinG (L : Tab) (res : List ResultVar) (k : Nat) (R : AV → List Blk → Prop) (e : Exit) (σ : AS) : Prop where
  out : (e = .normal ∨ e = .ret) ∧ ∃ vs, OutsA L σ res vs ∧ R (outA vs) (σ.hp.take k)
section
variable {P : Program} {F : Frm} {L : Tab}
theorem ag_enter {f : FuncId} {fn : Func} {c : Code} {asq : List AV} {hs : List Blk} {R : AV → List Blk → Prop} {N : Nat} {res : List ResultVar} (k : Nat) (hL : TabOk P L) (hf : P.funcs[f]? = some fn) (hNt : fn.ntmps = N) (hres : fn.results = res.toArray) (hb : fn.body = some c) (hn : (fn.name == "runtime.NumGoroutine") = false) (hN : Nat.ble asq.length N = true)
    (h : ∀ F, AC P F c (FinG L res k R) ⟨initT N asq, hs, N⟩) : AG P f asq hs R := by
  refine ⟨⟨fn, hf, hn, by rw [hb]; rfl⟩, fun F M w vs hh hav => ?_⟩
  have hlen := hav.len
  have hNl := Nat.le_of_ble_eq_true hN
  refine calls_of_wp hf hb (wp_mono ((h ⟨F.w0, F.X, M, F.G, F.GX⟩).out M _ w ⟨?_, ?_, rfl, ⟨hh.mem, Ext.refl _ _, ⟨hh.frm.os, hh.frm.tape, hh.frm.output, hh.frm.size, hh.frm.block⟩, hh.at_, hh.sep, hh.out⟩⟩) ?_)
  · intro i
    simp only [initT]
    by_cases hi : i < asq.length
    · have : Nat.blt i N = true := Nat.ble_eq_true_of_le (by omega)
      rw [this, cond_true]
      have h1 : asq[i]? = some asq[i] := List.getElem?_eq_getElem hi
      obtain ⟨x, hx, hra⟩ := hav.get h1
      rw [List.getD_eq_getElem?_getD, h1]
      have h2 : i < vs.length := by omega
      have h3 : vs[i] = x := by rw [List.getElem?_eq_getElem h2] at hx; injection hx
      simp [Array.getD_eq_getD_getElem?, Array.getElem?_append, h2, h3]
      exact hra
    · have h1 : asq.getD i (.c (.lit undef)) = .c (.lit undef) := by
        rw [List.getD_eq_getElem?_getD, List.getElem?_eq_none (by omega)]; rfl
      rw [h1]
      have h2 : ¬ i < vs.length := by omega
      have h3 : (vs.toArray ++ Array.replicate (fn.ntmps - vs.toArray.size) undef).getD i undef = undef := by
        simp [Array.getD_eq_getD_getElem?, Array.getElem?_append, h2, Array.getElem?_replicate]
        split <;> rfl
      rw [h3]
      cases Nat.blt i N <;> simp only [cond_true, cond_false, RA, RT]
  · simp [hNt]; omega
  · rintro e' a' w' ⟨M', σ', ⟨⟨he', vs', ho, hK⟩⟩, hr⟩
    rw [show res = fn.results.toList by rw [hres]] at ho
    obtain ⟨u, hu', hRA⟩ := resultsA_sound hL hr ho
    have hx : Ext F.may M M' := hr.heap.ext
    have hh' : HeapOk F M' σ'.hp w' := ⟨hr.heap.mem, hh.ext.trans hx, ⟨hr.heap.frm.os, hr.heap.frm.tape, hr.heap.frm.output, hr.heap.frm.size, hr.heap.frm.block⟩, hr.heap.at_, hr.heap.sep, hr.heap.out⟩
    have hfin : a'.defers = [] ∧ ∃ v, (results fn a'.tmps).run P w' = .ok v w' ∧ ∃ v' r hs' M', Ending.returned v = .returned v' ∧ R r hs' ∧ Ext F.may M M' ∧ HeapOk F M' hs' w' ∧ RA M' r v' :=
      ⟨hr.defers, u, hu', u, outA vs', σ'.hp.take k, M', rfl, hK, hx, hh'.take k, hRA⟩
    rcases he' with rfl | rfl <;> exact hfin
end
def selB (hp : List Blk) : List Nat → Option (List Blk)
  | [] => some []
  | i :: is => match hp[i]?, selB hp is with | some x, some r => some (x :: r) | _, _ => none
def freshB : List Nat → Bool
  | [] => true
  | i :: is => !is.contains i && freshB is
def putB (hp : List Blk) : List Nat → List Blk → List Blk
  | [], hs => hp ++ hs
  | _ :: _, [] => hp
  | i :: is, x :: hs => (putB hp is hs).set i x
def posB (hp : List Blk) (sel : List Nat) (i : Nat) : Nat := match sel[i]? with | some j => j | none => hp.length + (i - sel.length)
theorem selB_get {hp : List Blk} : ∀ {sel : List Nat} {hs : List Blk}, selB hp sel = some hs → ∀ {i : Nat} {x : Blk}, hs[i]? = some x → ∃ j : Nat, sel[i]? = some j ∧ hp[j]? = some x
  | [], hs, h, i, x, hx => by simp only [selB, Option.some.injEq] at h; subst h; simp at hx
  | k :: is, hs, h, i, x, hx => by
    simp only [selB] at h
    cases h1 : hp[k]? with
    | none => rw [h1] at h; cases h
    | some y =>
      cases h2 : selB hp is with
      | none => rw [h1, h2] at h; cases h
      | some r =>
        rw [h1, h2] at h
        simp only [Option.some.injEq] at h
        subst h
        cases i with
        | zero => simp only [List.getElem?_cons_zero, Option.some.injEq] at hx; subst hx; exact ⟨k, rfl, h1⟩
        | succ i => obtain ⟨j, h3, h4⟩ := selB_get h2 (i := i) (by simpa using hx); exact ⟨j, by simpa using h3, h4⟩
theorem freshB_inj : ∀ {sel : List Nat}, freshB sel = true → ∀ {i i' j : Nat}, sel[i]? = some j → sel[i']? = some j → i = i'
  | [], _, i, i', j, h, _ => by simp at h
  | k :: is, hf, i, i', j, h, h' => by
    simp only [freshB, Bool.and_eq_true, Bool.not_eq_true', List.contains_eq_mem, decide_eq_false_iff_not] at hf
    cases i with
    | zero =>
      simp only [List.getElem?_cons_zero, Option.some.injEq] at h
      cases i' with
      | zero => rfl
      | succ i' => simp only [List.getElem?_cons_succ] at h'; exact absurd (h ▸ List.mem_of_getElem? h') hf.1
    | succ i =>
      simp only [List.getElem?_cons_succ] at h
      cases i' with
      | zero => simp only [List.getElem?_cons_zero, Option.some.injEq] at h'; exact absurd (h' ▸ List.mem_of_getElem? h) hf.1
      | succ i' => simp only [List.getElem?_cons_succ] at h'; rw [freshB_inj hf.2 h h']
theorem putB_get {hp : List Blk} : ∀ {sel : List Nat} {hs : List Blk}, sel.length ≤ hs.length → ∀ {j : Nat} {x : Blk}, (putB hp sel hs)[j]? = some x → (∃ i, j = posB hp sel i ∧ hs[i]? = some x) ∨ (hp[j]? = some x ∧ j ∉ sel)
  | [], hs, _, j, x, h => by
    simp only [putB] at h
    rcases Nat.lt_or_ge j hp.length with hj | hj
    · rw [List.getElem?_append_left hj] at h
      exact .inr ⟨h, by simp⟩
    · rw [List.getElem?_append_right hj] at h
      exact .inl ⟨j - hp.length, by simp only [posB, List.getElem?_nil, List.length_nil]; omega, h⟩
  | k :: is, [], hl, _, _, _ => by simp at hl
  | k :: is, y :: hs, hl, j, x, h => by
    simp only [putB, List.getElem?_set] at h
    split at h
    · rename_i hkj
      subst hkj
      split at h
      · exact .inl ⟨0, rfl, by simpa using h⟩
      · cases h
    · rename_i hkj
      rcases putB_get (by simpa using hl) h with ⟨i, h1, h2⟩ | ⟨h1, h2⟩
      · refine .inl ⟨i + 1, ?_, by simpa using h2⟩
        rw [h1]
        simp only [posB, List.getElem?_cons_succ, List.length_cons]
        split <;> omega
      · exact .inr ⟨h1, by simp [h2, Ne.symm hkj]⟩
theorem sub_gx {F : Frm} {M : Mm} {hp hs : List Blk} {w : World} {sel : List Nat} (h : HeapOk F M hp w) (hs' : selB hp sel = some hs) : ∀ x ∈ globTab, ¬ ∃ (i : Nat) (y : Blk), hs[i]? = some y ∧ y.blk = some x.1 := by
  rintro x hx ⟨i, y, h1, h2⟩
  obtain ⟨j, _, h3⟩ := selB_get hs' h1
  obtain ⟨t, fr, e⟩ := F.G x hx
  rcases (h.out j y x.1 h3 h2).1 with h4 | h4
  · exact F.GX x hx h4
  · have := (Array.getElem?_eq_some_iff.1 e).1; omega
def subF (M : Mm) (hs : List Blk) (w : World) (hG : Glob w) (hX : ∀ x ∈ globTab, ¬ ∃ (i : Nat) (y : Blk), hs[i]? = some y ∧ y.blk = some x.1) : Frm := ⟨w, fun b => ∃ (i : Nat) (x : Blk), hs[i]? = some x ∧ x.blk = some b, M, hG, hX⟩
theorem heap_sel {F : Frm} {M : Mm} {hp hs : List Blk} {w : World} {sel : List Nat} (h : HeapOk F M hp w) (hs' : selB hp sel = some hs) (hf : freshB sel = true) : HeapOk (subF M hs w h.glob (sub_gx h hs')) M hs w := by
  refine ⟨h.mem, Ext.refl _ _, ⟨rfl, rfl, rfl, Nat.le_refl _, fun _ _ _ => rfl⟩, fun i x hx => ?_, fun i j x y b hx hy hxb hyb => ?_, fun i x b hx hxb => ?_⟩
  · obtain ⟨j, _, h2⟩ := selB_get hs' hx
    exact h.at_ j x h2
  · obtain ⟨k, h1, h2⟩ := selB_get hs' hx
    obtain ⟨k', h3, h4⟩ := selB_get hs' hy
    have := h.sep k k' x y b h2 h4 hxb hyb
    subst this
    exact freshB_inj hf h1 h3
  · obtain ⟨j, _, h2⟩ := selB_get hs' hx
    exact ⟨.inl ⟨i, x, hx, hxb⟩, (h.out j x b h2 hxb).2⟩
theorem sub_may {F : Frm} {M : Mm} {hp hs : List Blk} {w : World} {sel : List Nat} (h : HeapOk F M hp w) (hs' : selB hp sel = some hs) (b : Nat) (hb : (subF M hs w h.glob (sub_gx h hs')).may b) : F.may b := by
  rcases hb with ⟨i, x, hx, hxb⟩ | hb
  · obtain ⟨j, _, h2⟩ := selB_get hs' hx
    exact (h.out j x b h2 hxb).1
  · exact .inr (Nat.le_trans h.frm.size hb)
theorem heap_put {F : Frm} {M M' : Mm} {hp hs hs2 : List Blk} {w w' : World} {sel : List Nat} (h : HeapOk F M hp w) (hsl : selB hp sel = some hs) (hl : sel.length ≤ hs2.length) (h2 : HeapOk (subF M hs w h.glob (sub_gx h hsl)) M' hs2 w') : HeapOk F M' (putB hp sel hs2) w' := by
  have hM : Ext (subF M hs w h.glob (sub_gx h hsl)).may M M' := h2.ext
  have hX : ∀ b, (subF M hs w h.glob (sub_gx h hsl)).X b → ∃ (j : Nat) (x : Blk), j ∈ sel ∧ hp[j]? = some x ∧ x.blk = some b := by
    rintro b ⟨i, x, hx, hb⟩
    obtain ⟨j, h3, h4⟩ := selB_get hsl hx
    exact ⟨j, x, List.mem_of_getElem? h3, h4, hb⟩
  have hold : ∀ (j : Nat) (x : Blk) (b : Nat), hp[j]? = some x → j ∉ sel → x.blk = some b → b < w.heap.size ∧ ¬ (subF M hs w h.glob (sub_gx h hsl)).X b := by
    intro j x b hx hj hb
    refine ⟨(h.at_ j x hx).lt hb, fun hXb => ?_⟩
    obtain ⟨k, y, hk, hy, hyb⟩ := hX b hXb
    have := h.sep j k x y b hx hy hb hyb
    subst this
    exact hj hk
  refine ⟨h2.mem, h.ext.trans (hM.to (sub_may h hsl)), ⟨h2.frm.os.trans h.frm.os, h2.frm.tape.trans h.frm.tape, h2.frm.output.trans h.frm.output, Nat.le_trans h.frm.size h2.frm.size, fun b hb hnX => ?_⟩, fun j x hx => ?_, fun j k x y b hx hy hxb hyb => ?_, fun j x b hx hxb => ?_⟩
  · refine (h2.frm.block b (Nat.lt_of_lt_of_le hb h.frm.size) fun hXb => ?_).trans (h.frm.block b hb hnX)
    obtain ⟨k, y, _, hy, hyb⟩ := hX b hXb
    rcases (h.out k y b hy hyb).1 with h3 | h3
    · exact hnX h3
    · omega
  · rcases putB_get hl hx with ⟨i, _, hi⟩ | ⟨hj, hns⟩
    · exact h2.at_ i x hi
    · exact (h.at_ j x hj).keep hM.sub fun b hb hlt => h2.frm.block b hlt (hold j x b hj hns hb).2
  · rcases putB_get hl hx with ⟨i, hji, hi⟩ | ⟨hj, hns⟩
    · rcases putB_get hl hy with ⟨i', hji', hi'⟩ | ⟨hk, hns'⟩
      · rw [hji, hji', h2.sep i i' x y b hi hi' hxb hyb]
      · obtain ⟨h3, h4⟩ := hold k y b hk hns' hyb
        rcases (h2.out i x b hi hxb).1 with h5 | h5
        · exact absurd h5 h4
        · have : w.heap.size ≤ b := h5
          omega
    · rcases putB_get hl hy with ⟨i', hji', hi'⟩ | ⟨hk, hns'⟩
      · obtain ⟨h3, h4⟩ := hold j x b hj hns hxb
        rcases (h2.out i' y b hi' hyb).1 with h5 | h5
        · exact absurd h5 h4
        · have : w.heap.size ≤ b := h5
          omega
      · exact h.sep j k x y b hj hk hxb hyb
  · rcases putB_get hl hx with ⟨i, hji, hi⟩ | ⟨hj, hns⟩
    · obtain ⟨h3, h4⟩ := h2.out i x b hi hxb
      refine ⟨?_, h4⟩
      rcases h3 with h5 | h5
      · obtain ⟨k, y, _, hy, hyb⟩ := hX b h5
        exact (h.out k y b hy hyb).1
      · exact .inr (Nat.le_trans h.frm.size h5)
    · obtain ⟨h3, h4⟩ := h.out j x b hj hxb
      refine ⟨h3, fun p hp' => ?_⟩
      have hlt := hold j x b hj hns hxb
      cases hc : M' p with
      | none => rfl
      | some v =>
        rcases hM.2 p v hc with h5 | h5
        · rw [h4 p hp'] at h5; cases h5
        · rcases h5 with h6 | h6
          · exact absurd (hp' ▸ h6) hlt.2
          · have h7 : w.heap.size ≤ p.block := h6
            omega
def Re (a b : AV) : Prop := ∀ M u, RA M a u → RA M b u
def Res (asq bs : List AV) : Prop := ∀ M us, RAs M asq us → RAs M bs us
theorem re_refl {a : AV} : Re a a := fun _ _ h => h
theorem re_own {i j : Nat} {v : Value} : Re (.own i v) (.own j v) := fun M u h => by simp only [RA] at h ⊢; exact h
theorem re_ptr {i j b off : Nat} : Re (.ptr i b off) (.ptr j b off) := fun M u h => by simp only [RA] at h ⊢; exact h
theorem re_cls {a : AV} {t : T} (hz : Rzs [] [a] [t]) : Re a (.c t) := fun M u h => by
  have h1 : RAs M [a] [u] := by simp only [RAs]; exact ⟨u, [], rfl, h, rfl⟩
  have h2 := cls_sound _ _ _ hz h1
  simp only [RTs] at h2
  obtain ⟨x, r, e, h3, _⟩ := h2
  injection e with e _
  subst e
  simpa only [RA] using h3
theorem res_nil : Res [] [] := fun _ _ h => h
theorem res_cons {a b : AV} {asq bs : List AV} (h : Re a b) (h' : Res asq bs) : Res (a :: asq) (b :: bs) := fun M us hu => by
  simp only [RAs] at hu ⊢
  obtain ⟨x, r, e, h1, h2⟩ := hu
  exact ⟨x, r, e, h M x h1, h' M r h2⟩
section
variable {P : Program} {F : Frm} {d : Option Tmp} {ty : TypeId} {pos : String} {aft : Array Edge} {g : Option (Nat × Bool)} {ρ : Operand → AV} {hp : List Blk} {K : AV → List Blk → Prop}
theorem lo_callG {f : FuncId} {y : Operand} {xs : List Operand} {ats : Array TypeId} {asq cap : List AV} {hs : List Blk} {R : AV → List Blk → Prop} (sel : List Nat) (hc : AG P f asq hs R) (hy : ∀ M u, RA M (ρ y) u → ∃ cs : List Value, u = .func (.func f) #[] cs.toArray ∧ RAs M cap cs) (hx : Res (xs.map ρ ++ cap) asq) (hsl : selB hp sel = some hs) (hf : freshB sel = true)
    (h : ∀ r hs2, R r hs2 → ∃ r', Re r r' ∧ sel.length ≤ hs2.length ∧ K r' (putB hp sel hs2)) : LO P F ⟨d, .call { callee := .value y, args := xs.toArray, argTypes := ats }, ty, pos, aft, g⟩ ρ hp K := by
  refine ⟨fun M e w he hh => ?_⟩
  obtain ⟨hE, hcall⟩ := hc
  have h1 := he y (by simp [Op.operands, Call.operands])
  obtain ⟨cs, hu, hcs⟩ := hy M _ h1
  rw [run_call hE hu]
  have hav := (ev_all xs (fun x hx => he x (by simp [Op.operands, Call.operands, hx]))).app hcs
  refine (hcall (subF M hs w hh.glob (sub_gx hh hsl)) M w _ (heap_sel hh hsl hf) (hx M _ hav)).mono ?_
  rintro e' w' ⟨v, r, hs2, M', rfl, hR, hM, hh2, hr⟩
  obtain ⟨r', hre, hl, hK⟩ := h r hs2 hR
  exact ⟨v, rfl, M', r', _, hK, hM.to (sub_may hh hsl), heap_put hh hsl hl hh2, hre M' v hr⟩
end
end Go.Proofs.Ytnkafjkcjpajgaa
namespace Go.Proofs.Ytnkafjkcjpajgaa
open Go.RowKit
section
variable {L : Tab} {σ : AS}
theorem outsA_nil : OutsA L σ [] [] := by simp only [OutsA]
theorem outsA_cons {r : ResultVar} {rs : List ResultVar} {v : AV} {vs : List AV} (h : OutA L σ r v) (h' : OutsA L σ rs vs) : OutsA L σ (r :: rs) (v :: vs) := by simp only [OutsA]; exact ⟨v, vs, rfl, h, h'⟩
theorem outA_tmp {i : Nat} {v : AV} (h : fc (σ.tmps i) = some v) : OutA L σ (.tmp i) v := by simp only [OutA]; exact fc_eq h
theorem outA_agg {a ty i b off : Nat} {tb : TypeId} {cs l : List AV} {ti : TI} (h1 : σ.tmps a = .ptr i b off) (h2 : σ.hp[i]? = some (.box b tb cs)) (h3 : L.look ty = some ti) (h4 : ti.agg = true) (h5 : Nat.ble (off + ti.size) cs.length = true) (h6 : evl ((cs.drop off).take ti.size) = some l) : OutA L σ (.cell a ty) (.agg l) := by
  simp only [OutA]
  refine ⟨i, b, off, tb, cs, ti, h1, h2, h3, ?_⟩
  rw [h4]
  exact ⟨Nat.le_of_ble_eq_true h5, by rw [evl_eq h6]⟩
theorem outA_one {a ty i b off : Nat} {tb : TypeId} {cs : List AV} {v : AV} {ti : TI} (h1 : σ.tmps a = .ptr i b off) (h2 : σ.hp[i]? = some (.box b tb cs)) (h3 : L.look ty = some ti) (h4 : ti.agg = false) (h5 : cs[off]? = some v) : OutA L σ (.cell a ty) v := by
  simp only [OutA]
  refine ⟨i, b, off, tb, cs, ti, h1, h2, h3, ?_⟩
  rw [h4]
  exact h5
theorem zG {res : List ResultVar} {k : Nat} {R : AV → List Blk → Prop} {e : Exit} {vs : List AV} {hq : List Blk} (h : R (outA vs) hq) (he : e = .normal ∨ e = .ret := by first | exact .inl rfl | exact .inr rfl)
    (ho : OutsA L σ res vs := by repeat (first | exact outsA_nil | apply outsA_cons | (apply outA_tmp; (focus exact rfl)) | (apply outA_agg; (focus exact rfl); (focus exact rfl); (focus exact rfl); (focus exact rfl); (focus exact rfl); (focus exact rfl)) | (apply outA_one; (focus exact rfl); (focus exact rfl); (focus exact rfl); (focus exact rfl); (focus exact rfl))))
    (hh : evl (σ.hp.take k) = some hq := by exact rfl) : FinG L res k R e σ := ⟨he, vs, ho, by rw [← evl_eq hh]; exact h⟩
end
section
variable {P : Program} {F : Frm} {L : Tab} {d : Option Tmp} {ty : TypeId} {pos : String} {aft : Array Edge} {g : Option (Nat × Bool)} {ρ : Operand → AV} {hp : List Blk} {K : AV → List Blk → Prop}
theorem zCallG {f : FuncId} {y : Operand} {xs : List Operand} {ats : Array TypeId} {asq cap : List AV} {hs : List Blk} {R : AV → List Blk → Prop} (sel : List Nat) (hc : AG P f asq hs R)
    (h : ∀ r hs2, R r hs2 → ∃ r' hp', Re r r' ∧ Nat.ble sel.length hs2.length = true ∧ evl (putB hp sel hs2) = some hp' ∧ K r' hp') (hy : ρ y = .fn (.func f) cap := by exact rfl)
    (hx : Res (xs.map ρ ++ cap) asq := by repeat (first | exact res_nil | apply res_cons | exact re_own | exact re_ptr | exact re_refl | apply re_cls | exact rzs_nil | apply rzs_cons | exact rz_c | exact rz_nil rfl | apply rz_agg | apply rz_fn | apply rz_tup)) (hsl : selB hp sel = some hs := by exact rfl) (hf : freshB sel = true := by exact rfl) :
    LO P F ⟨d, .call { callee := .value y, args := xs.toArray, argTypes := ats }, ty, pos, aft, g⟩ ρ hp K :=
  lo_callG sel hc (fun M u hu => by rw [hy] at hu; simpa only [RA] using hu) hx hsl hf fun r hs2 hR => by
    obtain ⟨r', hp', h1, h2, h3, h4⟩ := h r hs2 hR
    exact ⟨r', h1, Nat.le_of_ble_eq_true h2, by rw [← evl_eq h3]; exact h4⟩
variable {t u e : TypeId} {x y : Operand} {ti tu te : TI} {cs : List T} {n i : Nat} {v : Value} {e' : TypeId}
end
end Go.Proofs.Ytnkafjkcjpajgaa
namespace Go.Proofs.Ytnkafjkcjpajgaa
open Go.RowKit
def bs (l : List UInt8) : ByteArray := ⟨l.toArray⟩
section
variable {P : Program} {F : Frm} {L : Tab} {d : Option Tmp} {ty : TypeId} {pos : String} {aft : Array Edge} {g : Option (Nat × Bool)} {ρ : Operand → AV} {hp : List Blk} {K : AV → List Blk → Prop}
theorem zBo {t el : TypeId} {ti te : TI} {n k : Nat} {parts : List (Nat × Operand)} {cs cs' : List AV} {ts : List T} {hp' : Value → List Blk} (h : ∀ v, K (.own k v) (hp' v)) (hL : TabOk P L := by exact tok) (ht : L.look t = some ti := by exact rfl) (hd : ti.d = .slice el := by exact rfl) (hte : L.look el = some te := by exact rfl) (h0 : Nat.ble 1 te.size = true := by exact rfl) (hn : Nat.ble (n * te.size) 16777216 = true := by exact rfl)
    (hf : fillA (fun i => some (i * te.size, te.size)) ((List.range (n * te.size)).map fun j => .c (.lit (te.zero.getD (j % te.size) undef))) (parts.map fun p => (p.1, ρ p.2)) = some cs := by exact rfl) (he : evl cs = some cs' := by exact rfl) (hz : Rzs [] cs' ts := by repeat (first | exact rzs_nil | apply rzs_cons | exact rz_c | exact rz_nil rfl | apply rz_agg | exact rz_own rfl | apply rz_fn | exact rz_ptr rfl | apply rz_tup)) (hk : lenU hp = some k := by exact rfl) (hq : ∀ v, evl (hp ++ [.row v el te.size n ts]) = some (hp' v) := by exact fun _ => rfl) :
    LO P F ⟨d, .buildSlice t n parts.toArray, ty, pos, aft, g⟩ ρ hp K := v_bslice_own hL ht hd hte h0 hn hf he hz hk hq h
end
end Go.Proofs.Ytnkafjkcjpajgaa
namespace Go.Proofs.Ytnkafjkcjpajgaa
open Go.RowKit
inductive Pl where
  | fin (r : List Nat)
  | fork (p : List Nat) (i : Nat) (a : Pl) (j : Nat) (b : Pl)
def Pl.n : Pl → Nat
  | .fin r => r.length
  | .fork p _ a _ _ => a.n + 1 + p.length
theorem AG.re {P : Program} {f : FuncId} {asq : List AV} {hs : List Blk} {R R' : AV → List Blk → Prop} (h : AG P f asq hs R) (hi : ∀ r hs, R r hs → ∃ r', Re r r' ∧ R' r' hs) : AG P f asq hs R' :=
  ⟨h.1, fun F M w vs hM hv => (h.2 F M w vs hM hv).mono fun _ _ ⟨v, r, hs', M', h1, h2, h3, h4, h5⟩ => let ⟨r', h6, h7⟩ := hi r hs' h2; ⟨v, r', hs', M', h1, h7, h3, h4, h6 M' v h5⟩⟩
end Go.Proofs.Ytnkafjkcjpajgaa
namespace Go.Proofs.Ytnkafjkcjpajgaa
open Go.RowKit
theorem guard_slice {P : Program} {op : BinOp} {t : TypeId} {x y : Operand} {a b : Option Addr} {n c n' c' : Nat} (w : World) : (eqGuard op t x y (.slice a n c) (.slice b n' c')).run P w = .ok () w := by
  unfold eqGuard; simp
theorem run_nilS {P : Program} {t e : TypeId} (h : P.underlying t = some (.slice e)) (a : Option Addr) (n c : Nat) (w : World) : (Op.equal t (.slice a n c) (.slice none 0 0)).run P w = .ok a.isNone w := by
  rw [Op.equal, show Op.maxDepth = 9999 + 1 from rfl, Op.equalIn]
  simp only [Sem.run_bind, run_underlying h, Result.andThen_ok]
  cases a <;> rfl
section
variable {P : Program} {F : Frm} {L : Tab} {d : Option Tmp} {ty : TypeId} {pos : String} {aft : Array Edge} {g : Option (Nat × Bool)} {ρ : Operand → AV} {hp : List Blk} {K : AV → List Blk → Prop}
theorem zNs {t t' el : TypeId} {ti : TI} {x y : Operand} {n sz : Nat} {cs : List T} (h : ∀ b : Bool, (b = true → n = 0) → K (.c (.lit (.bool b))) hp) (hL : TabOk P L := by exact tok) (hx : ρ x = .c (.row n sz cs) := by exact rfl) (hy : ρ y = .c (.lit (.slice none 0 0)) := by exact rfl) (ht : L.look t = some ti := by exact rfl) (hd : ti.d = .slice el := by exact rfl) : LO P F ⟨d, .binOp .eql t x y t', ty, pos, aft, g⟩ ρ hp K := by
  refine ⟨fun M e w he hh => ?_⟩
  have h1 := he x (by first | (simp [Op.operands]; done) | simp [Op.operands, Call.operands])
  rw [hx] at h1
  have h2 := he y (by first | (simp [Op.operands]; done) | simp [Op.operands, Call.operands])
  rw [hy] at h2
  simp only [RA, RT] at h1 h2
  obtain ⟨A, c, xs, hu, hc, hn, h0, hl, hat, hrt⟩ := h1
  have hr : (execOp e ⟨d, .binOp .eql t x y t', ty, pos, aft, g⟩).run P w = .ok (.value (.bool A.isNone)) w := by
    simp [execOp, hu, h2, guard_slice, binOp, run_nilS (hL.slice ht hd)]
  rw [hr]
  refine ⟨M, _, hp, h A.isNone fun hb => ?_, Ext.refl _ _, hh, by simp only [RA, RT]⟩
  rcases Nat.eq_zero_or_pos n with h3 | h3
  · exact h3
  · obtain ⟨ad, rfl, _⟩ := hat h3
    cases hb
end
end Go.Proofs.Ytnkafjkcjpajgaa
namespace Go.Proofs.Ytnkafjkcjpajgaa
open Go.RowKit
abbrev Rg := Int × Int
def rgOk (r : Rg) : Bool := decide (1 ≤ r.1) && decide (r.2 ≤ 9999) && decide (r.1 ≤ r.2)
theorem rgOk_iff {r : Rg} : rgOk r = true ↔ 1 ≤ r.1 ∧ r.2 ≤ 9999 ∧ r.1 ≤ r.2 := by simp [rgOk, and_assoc]
/-- a number is in one of the ranges -/
def inR (l : List Rg) (v : Int) : Prop := ∃ r ∈ l, r.1 ≤ v ∧ v ≤ r.2
def inB (l : List Rg) (v : Int) : Bool := l.any fun r => decide (r.1 ≤ v) && decide (v ≤ r.2)
theorem inB_iff {l : List Rg} {v : Int} : inB l v = true ↔ inR l v := by simp [inB, inR]
theorem inR_nil {v : Int} : ¬ inR [] v := fun ⟨_, h, _⟩ => by cases h
theorem inR_app {l m : List Rg} {v : Int} : inR (l ++ m) v ↔ inR l v ∨ inR m v := by
  constructor
  · rintro ⟨r, h, h'⟩
    rcases List.mem_append.1 h with h | h
    · exact .inl ⟨r, h, h'⟩
    · exact .inr ⟨r, h, h'⟩
  · rintro (⟨r, h, h'⟩ | ⟨r, h, h'⟩)
    · exact ⟨r, List.mem_append_left _ h, h'⟩
    · exact ⟨r, List.mem_append_right _ h, h'⟩
theorem inR_one {r : Rg} {v : Int} : inR [r] v ↔ r.1 ≤ v ∧ v ≤ r.2 := by simp [inR]
theorem inR_cons {r : Rg} {l : List Rg} {v : Int} : inR (r :: l) v ↔ (r.1 ≤ v ∧ v ≤ r.2) ∨ inR l v := by
  rw [show r :: l = [r] ++ l from rfl, inR_app, inR_one]
def Canon (l : List Rg) : Prop := l.Pairwise (fun a b => a.2 + 1 < b.1) ∧ ∀ r ∈ l, r.1 ≤ r.2
theorem Canon.nil : Canon [] := ⟨List.Pairwise.nil, fun _ h => by cases h⟩
theorem Canon.snoc {l : List Rg} {r : Rg} (h : Canon l) (hr : r.1 ≤ r.2) (hl : ∀ q ∈ l, q.2 + 1 < r.1) : Canon (l ++ [r]) :=
  ⟨List.pairwise_append.2 ⟨h.1, List.pairwise_singleton _ _, fun a ha b hb => by rw [List.mem_singleton.1 hb]; exact hl a ha⟩, fun q hq => by
    rcases List.mem_append.1 hq with hq | hq
    · exact h.2 q hq
    · rw [List.mem_singleton.1 hq]; exact hr⟩
theorem Canon.init {l : List Rg} {r : Rg} (h : Canon (l ++ [r])) : Canon l ∧ (∀ q ∈ l, q.2 + 1 < r.1) ∧ r.1 ≤ r.2 := by
  obtain ⟨h1, h2⟩ := h
  obtain ⟨h3, -, h4⟩ := List.pairwise_append.1 h1
  exact ⟨⟨h3, fun q hq => h2 q (List.mem_append_left _ hq)⟩, fun q hq => h4 q hq r (by simp), h2 r (by simp)⟩
theorem Canon.grow {l : List Rg} {r : Rg} (h : Canon (l ++ [r])) {z : Int} (hz : r.2 ≤ z) : Canon (l ++ [(r.1, z)]) := by
  obtain ⟨h1, h2, h3⟩ := h.init
  exact h1.snoc (by simp only; omega) h2
theorem Canon.tail {a : Rg} {l : List Rg} (h : Canon (a :: l)) : Canon l ∧ (∀ b ∈ l, a.2 + 1 < b.1) ∧ a.1 ≤ a.2 := by
  obtain ⟨h1, h2⟩ := h
  obtain ⟨h3, h4⟩ := List.pairwise_cons.1 h1
  exact ⟨⟨h4, fun r hr => h2 r (List.mem_cons_of_mem _ hr)⟩, h3, h2 a (by simp)⟩
theorem canon_uniq : ∀ {l m : List Rg}, Canon l → Canon m → (∀ v, inR l v ↔ inR m v) → l = m
  | [], [], _, _, _ => rfl
  | [], b :: s, _, hm, h => absurd ((h b.1).2 ⟨b, by simp, Int.le_refl _, hm.tail.2.2⟩) inR_nil
  | a :: t, [], hl, _, h => absurd ((h a.1).1 ⟨a, by simp, Int.le_refl _, hl.tail.2.2⟩) inR_nil
  | a :: t, b :: s, hl, hm, h => by
    obtain ⟨ht, hat, ha⟩ := hl.tail
    obtain ⟨hs, hbs, hb⟩ := hm.tail
    have low : ∀ {a : Rg} {t : List Rg}, (∀ b ∈ t, a.2 + 1 < b.1) → a.1 ≤ a.2 → ∀ v, inR (a :: t) v → a.1 ≤ v := by
      intro a t hat ha v hv
      rcases inR_cons.1 hv with h | ⟨r, hr, h1, h2⟩
      · exact h.1
      · have := hat r hr; omega
    have gap : ∀ {a : Rg} {t : List Rg}, (∀ b ∈ t, a.2 + 1 < b.1) → ¬ inR (a :: t) (a.2 + 1) := by
      intro a t hat hv
      rcases inR_cons.1 hv with h | ⟨r, hr, h1, h2⟩
      · omega
      · have := hat r hr; omega
    have rest : ∀ {a : Rg} {t : List Rg}, (∀ b ∈ t, a.2 + 1 < b.1) → ∀ v, inR t v ↔ inR (a :: t) v ∧ a.2 < v := by
      intro a t hat v
      constructor
      · rintro ⟨r, hr, h1, h2⟩
        exact ⟨inR_cons.2 (.inr ⟨r, hr, h1, h2⟩), by have := hat r hr; omega⟩
      · rintro ⟨hv, h1⟩
        rcases inR_cons.1 hv with h | h
        · omega
        · exact h
    have e1 : a.1 = b.1 := by
      have h1 := low hbs hb a.1 ((h a.1).1 (inR_cons.2 (.inl ⟨Int.le_refl _, ha⟩)))
      have h2 := low hat ha b.1 ((h b.1).2 (inR_cons.2 (.inl ⟨Int.le_refl _, hb⟩)))
      omega
    have e2 : a.2 = b.2 := by
      rcases Int.lt_trichotomy a.2 b.2 with h3 | h3 | h3
      · exact absurd ((h (a.2 + 1)).2 (inR_cons.2 (.inl ⟨by omega, by omega⟩))) (gap hat)
      · exact h3
      · exact absurd ((h (b.2 + 1)).1 (inR_cons.2 (.inl ⟨by omega, by omega⟩))) (gap hbs)
    have e : a = b := Prod.ext e1 e2
    subst e
    rw [canon_uniq ht hs fun v => by rw [rest hat, rest hbs, h v]]
def mergeStep (o : List Rg) (r : Rg) : List Rg :=
  match o.getLast? with
  | none => [r]
  | some q => if r.1 ≤ q.2 + 1 then o.dropLast ++ [(q.1, max q.2 r.2)] else o ++ [r]
def mergeL (l : List Rg) : List Rg := l.foldl mergeStep []
theorem merge_snoc (A : List Rg) (q r : Rg) : mergeStep (A ++ [q]) r = if r.1 ≤ q.2 + 1 then A ++ [(q.1, max q.2 r.2)] else (A ++ [q]) ++ [r] := by
  simp [mergeStep]
theorem snoc_cases (o : List Rg) : o = [] ∨ ∃ A q, o = A ++ [q] := by
  rcases o.eq_nil_or_concat with h | ⟨A, q, h⟩
  · exact .inl h
  · exact .inr ⟨A, q, by rw [h]; simp⟩
theorem mergeL_snoc {l : List Rg} {k : Nat} {r : Rg} (h : l[k]? = some r) : mergeL (l.take (k + 1)) = mergeStep (mergeL (l.take k)) r := by
  obtain ⟨h1, rfl⟩ := List.getElem?_eq_some_iff.1 h
  rw [mergeL, List.take_succ_eq_append_getElem h1, List.foldl_append]
  rfl
theorem merge_len (o : List Rg) (r : Rg) : (mergeStep o r).length ≤ o.length + 1 := by
  rcases snoc_cases o with rfl | ⟨A, q, rfl⟩
  · simp [mergeStep]
  · rw [merge_snoc]
    split <;> simp
theorem mergeL_le : ∀ (l : List Rg), (mergeL l).length ≤ l.length := by
  have h : ∀ (l o : List Rg), (l.foldl mergeStep o).length ≤ o.length + l.length := by
    intro l
    induction l with
    | nil => intro o; simp
    | cons a l ih =>
      intro o
      have h1 := ih (mergeStep o a)
      have h2 := merge_len o a
      simp only [List.foldl_cons, List.length_cons]
      omega
  intro l
  have := h l []
  simpa [mergeL] using this
theorem mergeL_ok (l : List Rg) (hs : l.Pairwise fun a b => a.1 ≤ b.1) (hl : ∀ r ∈ l, r.1 ≤ r.2) : Canon (mergeL l) ∧ ∀ v, inR (mergeL l) v ↔ inR l v := by
  have h : ∀ (l P o : List Rg), (P ++ l).Pairwise (fun a b => a.1 ≤ b.1) → (∀ r ∈ l, r.1 ≤ r.2) → Canon o → (∀ q ∈ o, ∃ p ∈ P, p.1 = q.1) → (∀ v, inR o v ↔ inR P v) → Canon (l.foldl mergeStep o) ∧ ∀ v, inR (l.foldl mergeStep o) v ↔ inR (P ++ l) v := by
    intro l
    induction l with
    | nil => intro P o _ _ hc _ hi; exact ⟨hc, fun v => by rw [List.append_nil]; exact hi v⟩
    | cons r l ih =>
      intro P o hs hl hc hq hi
      have hr := hl r (by simp)
      have hpr : ∀ p ∈ P, p.1 ≤ r.1 := fun p hp => (List.pairwise_append.1 hs).2.2 p hp r (by simp)
      have e : P ++ r :: l = (P ++ [r]) ++ l := by simp
      rw [List.foldl_cons, e]
      rw [e] at hs
      refine ih (P ++ [r]) (mergeStep o r) hs (fun x hx => hl x (by simp [hx])) ?_ ?_ ?_
      · rcases snoc_cases o with rfl | ⟨A, q, rfl⟩
        · exact ⟨List.pairwise_singleton _ _, fun x hx => by rw [List.mem_singleton.1 hx]; exact hr⟩
        · rw [merge_snoc]
          split
          · exact hc.grow (Int.le_max_left _ _)
          · next hn =>
            refine hc.snoc hr fun x hx => ?_
            obtain ⟨h1, h2, h3⟩ := hc.init
            rcases List.mem_append.1 hx with hx | hx
            · have := h2 x hx; omega
            · rw [List.mem_singleton.1 hx]; omega
      · intro x hx
        rcases snoc_cases o with rfl | ⟨A, q, rfl⟩
        · exact ⟨r, by simp, by rw [List.mem_singleton.1 hx]⟩
        · rw [merge_snoc] at hx
          have key : ∀ x ∈ A ++ [q], ∃ p ∈ P ++ [r], p.1 = x.1 := fun x hx => by
            obtain ⟨p, hp, he⟩ := hq x hx
            exact ⟨p, List.mem_append_left _ hp, he⟩
          split at hx
          · rcases List.mem_append.1 hx with hx | hx
            · exact key x (List.mem_append_left _ hx)
            · rw [List.mem_singleton.1 hx]; exact key q (by simp)
          · rcases List.mem_append.1 hx with hx | hx
            · exact key x hx
            · exact ⟨r, by simp, by rw [List.mem_singleton.1 hx]⟩
      · intro v
        rw [inR_app, ← hi v, inR_one]
        rcases snoc_cases o with rfl | ⟨A, q, rfl⟩
        · simp only [mergeStep, List.getLast?_nil, inR_one]
          constructor
          · exact .inr
          · rintro (h | h)
            · exact absurd h inR_nil
            · exact h
        · obtain ⟨p, hp, he⟩ := hq q (by simp)
          have h1 := hpr p hp
          have h2 := (hc.init).2.2
          rw [merge_snoc]
          split
          · next hle =>
            rw [inR_app, inR_app, inR_one, inR_one]
            simp only
            constructor
            · rintro (h | h)
              · exact .inl (.inl h)
              · by_cases h3 : v ≤ q.2
                · exact .inl (.inr ⟨h.1, h3⟩)
                · exact .inr ⟨by omega, by omega⟩
            · rintro ((h | h) | h)
              · exact .inl h
              · exact .inr ⟨h.1, by omega⟩
              · exact .inr ⟨by omega, by omega⟩
          · rw [inR_app, inR_one]
  have := h l [] [] (by simpa using hs) hl Canon.nil (fun q hq => by cases hq) (fun v => Iff.rfl)
  simpa [mergeL] using this
def runStep (g : Int → Bool) (o : List Rg) (v : Int) : List Rg :=
  bif g v then
    match o.getLast? with
    | none => [(v, v)]
    | some q => if q.2 = v - 1 then o.dropLast ++ [(q.1, v)] else o ++ [(v, v)]
  else o
def runsTo (g : Int → Bool) : Nat → List Rg
  | 0 => []
  | n + 1 => runStep g (runsTo g n) ((n : Int) + 1)
theorem run_snoc (g : Int → Bool) (A : List Rg) (q : Rg) (v : Int) : runStep g (A ++ [q]) v = bif g v then (if q.2 = v - 1 then A ++ [(q.1, v)] else (A ++ [q]) ++ [(v, v)]) else A ++ [q] := by
  simp [runStep]
theorem runs_le (g : Int → Bool) : ∀ n, (runsTo g n).length ≤ n
  | 0 => Nat.le_refl _
  | n + 1 => by
    have h1 := runs_le g n
    rw [runsTo]
    rcases snoc_cases (runsTo g n) with h | ⟨A, q, h⟩
    · rw [h]; unfold runStep; cases g ((n : Int) + 1) <;> simp
    · rw [h] at h1 ⊢
      rw [run_snoc]
      cases g ((n : Int) + 1)
      · simp only [cond_false]; omega
      · simp only [cond_true]
        simp only [List.length_append, List.length_cons, List.length_nil] at h1
        split <;> simp only [List.length_append, List.length_cons, List.length_nil] <;> omega
theorem runs_ok (g : Int → Bool) : ∀ n : Nat, Canon (runsTo g n) ∧ (∀ q ∈ runsTo g n, q.2 ≤ n) ∧ ∀ v, inR (runsTo g n) v ↔ 1 ≤ v ∧ v ≤ n ∧ g v = true
  | 0 => ⟨Canon.nil, (fun q hq => by cases hq), fun v => ⟨fun h => absurd h inR_nil, fun h => by have := h.1; have := h.2.1; simp only [Int.natCast_zero] at *; omega⟩⟩
  | n + 1 => by
    obtain ⟨h1, h2, h3⟩ := runs_ok g n
    rw [runsTo]
    have hv : ∀ v : Int, (1 ≤ v ∧ v ≤ (n + 1 : Nat) ∧ g v = true) ↔ (1 ≤ v ∧ v ≤ (n : Nat) ∧ g v = true) ∨ (v = (n : Int) + 1 ∧ g v = true) := fun v => by
      constructor
      · rintro ⟨a, b, c⟩
        by_cases hh : v = (n : Int) + 1
        · exact .inr ⟨hh, c⟩
        · exact .inl ⟨a, by omega, c⟩
      · rintro (⟨a, b, c⟩ | ⟨a, c⟩)
        · exact ⟨a, by omega, c⟩
        · exact ⟨by omega, by omega, c⟩
    generalize runsTo g n = o at *
    cases hg : g ((n : Int) + 1)
    · have e : runStep g o ((n : Int) + 1) = o := by unfold runStep; rw [hg]; rfl
      rw [e]
      refine ⟨h1, fun q hq => by have := h2 q hq; omega, fun v => ?_⟩
      rw [h3, hv]
      constructor
      · exact .inl
      · rintro (h | ⟨h, h'⟩)
        · exact h
        · rw [h, hg] at h'; cases h'
    · rcases snoc_cases o with rfl | ⟨A, q, rfl⟩
      · have e : runStep g [] ((n : Int) + 1) = [((n : Int) + 1, (n : Int) + 1)] := by unfold runStep; rw [hg]; rfl
        rw [e]
        refine ⟨⟨List.pairwise_singleton _ _, fun x hx => by rw [List.mem_singleton.1 hx]; exact Int.le_refl _⟩, fun x hx => by rw [List.mem_singleton.1 hx]; simp only; omega, fun v => ?_⟩
        rw [hv, ← h3, inR_one]
        simp only
        constructor
        · intro h
          have : v = (n : Int) + 1 := by omega
          exact .inr ⟨this, by rw [this]; exact hg⟩
        · rintro (h | h)
          · exact absurd h inR_nil
          · omega
      · rw [run_snoc, hg, cond_true]
        obtain ⟨h4, h5, h6⟩ := h1.init
        have hq2 := h2 q (by simp)
        split
        · next he =>
          refine ⟨h1.grow (by omega), fun x hx => ?_, fun v => ?_⟩
          · rcases List.mem_append.1 hx with hx | hx
            · have := h2 x (by simp [hx]); omega
            · rw [List.mem_singleton.1 hx]; simp only; omega
          · rw [hv, ← h3, inR_app, inR_app, inR_one, inR_one]
            simp only
            constructor
            · rintro (h | h)
              · exact .inl (.inl h)
              · by_cases h7 : v = (n : Int) + 1
                · exact .inr ⟨h7, by rw [h7]; exact hg⟩
                · exact .inl (.inr ⟨h.1, by omega⟩)
            · rintro ((h | h) | h)
              · exact .inl h
              · exact .inr ⟨h.1, by omega⟩
              · exact .inr ⟨by omega, by omega⟩
        · next he =>
          refine ⟨h1.snoc (Int.le_refl _) fun x hx => ?_, fun x hx => ?_, fun v => ?_⟩
          · rcases List.mem_append.1 hx with hx | hx
            · have := h5 x hx; simp only; omega
            · rw [List.mem_singleton.1 hx]; simp only; omega
          · rcases List.mem_append.1 hx with hx | hx
            · have := h2 x hx; omega
            · rw [List.mem_singleton.1 hx]; simp only; omega
          · rw [hv, ← h3, inR_app, inR_one]
            simp only
            constructor
            · rintro (h | h)
              · exact .inl h
              · have : v = (n : Int) + 1 := by omega
                exact .inr ⟨this, by rw [this]; exact hg⟩
            · rintro (h | h)
              · exact .inl h
              · exact .inr ⟨by omega, by omega⟩
/-- the ranges of a set are what is in it -/
theorem runs_eq {l : List Rg} (hc : Canon l) (hl : ∀ r ∈ l, 1 ≤ r.1 ∧ r.2 ≤ 9999) {g : Int → Bool} (hg : ∀ v, 1 ≤ v → v ≤ 9999 → (g v = true ↔ inR l v)) : runsTo g 9999 = l := by
  obtain ⟨h1, -, h3⟩ := runs_ok g 9999
  refine canon_uniq h1 hc fun v => ?_
  rw [h3]
  constructor
  · rintro ⟨a, b, c⟩; exact (hg v a (by simpa using b)).1 c
  · rintro ⟨r, hr, a, b⟩
    have := hl r hr
    exact ⟨by omega, by omega, (hg v (by omega) (by omega)).2 ⟨r, hr, a, b⟩⟩
end Go.Proofs.Ytnkafjkcjpajgaa
namespace Go.Proofs.Ytnkafjkcjpajgaa
open Go.RowKit
def Bound (l : List Rg) : Prop := ∀ r ∈ l, 1 ≤ r.1 ∧ r.2 ≤ 9999
def notStep (s : List Rg × Int) (r : Rg) : List Rg × Int := (bif decide (s.2 < r.1) then s.1 ++ [(s.2, r.1 - 1)] else s.1, r.2 + 1)
def notTo (l : List Rg) : List Rg × Int := l.foldl notStep ([], 1)
def notL (l : List Rg) : List Rg := bif decide ((notTo l).2 ≤ 9999) then (notTo l).1 ++ [((notTo l).2, 9999)] else (notTo l).1
theorem notTo_snoc {l : List Rg} {k : Nat} {r : Rg} (h : l[k]? = some r) : notTo (l.take (k + 1)) = notStep (notTo (l.take k)) r := by
  obtain ⟨h1, rfl⟩ := List.getElem?_eq_some_iff.1 h
  rw [notTo, List.take_succ_eq_append_getElem h1, List.foldl_append]
  rfl
theorem notTo_le : ∀ (l : List Rg), (notTo l).1.length ≤ l.length := by
  have h : ∀ (l : List Rg) (s : List Rg × Int), (l.foldl notStep s).1.length ≤ s.1.length + l.length := by
    intro l
    induction l with
    | nil => intro s; simp
    | cons a l ih =>
      intro s
      have h1 := ih (notStep s a)
      have h2 : (notStep s a).1.length ≤ s.1.length + 1 := by
        unfold notStep
        cases decide (s.2 < a.1) <;> simp
      simp only [List.foldl_cons, List.length_cons]
      omega
  intro l
  have := h l ([], 1)
  simpa [notTo] using this
theorem notTo_ok (l : List Rg) (hc : Canon l) (hl : Bound l) : Canon (notTo l).1 ∧ Bound (notTo l).1 ∧ (∀ q ∈ (notTo l).1, q.2 + 1 < (notTo l).2) ∧ 1 ≤ (notTo l).2 ∧ (notTo l).2 ≤ 10000 ∧ (∀ p ∈ l, p.2 < (notTo l).2) ∧ ∀ v, inR (notTo l).1 v ↔ 1 ≤ v ∧ v < (notTo l).2 ∧ ¬ inR l v := by
  have h : ∀ (l P : List Rg) (s : List Rg × Int), Canon (P ++ l) → Bound (P ++ l) → Canon s.1 → Bound s.1 → (∀ q ∈ s.1, q.2 + 1 < s.2) → 1 ≤ s.2 → s.2 ≤ 10000 → (∀ p ∈ P, p.2 < s.2) → (∀ r ∈ l, s.2 ≤ r.1) → (∀ v, inR s.1 v ↔ 1 ≤ v ∧ v < s.2 ∧ ¬ inR P v) →
      Canon (l.foldl notStep s).1 ∧ Bound (l.foldl notStep s).1 ∧ (∀ q ∈ (l.foldl notStep s).1, q.2 + 1 < (l.foldl notStep s).2) ∧ 1 ≤ (l.foldl notStep s).2 ∧ (l.foldl notStep s).2 ≤ 10000 ∧ (∀ p ∈ P ++ l, p.2 < (l.foldl notStep s).2) ∧ ∀ v, inR (l.foldl notStep s).1 v ↔ 1 ≤ v ∧ v < (l.foldl notStep s).2 ∧ ¬ inR (P ++ l) v := by
    intro l
    induction l with
    | nil =>
      intro P s _ _ h1 h2 h3 h4 h5 h7 _ h6
      rw [List.append_nil]
      exact ⟨h1, h2, h3, h4, h5, h7, h6⟩
    | cons r l ih =>
      intro P s hc hb h1 h2 h3 h4 h5 h6 h7 h8
      have hr := hb r (by simp)
      have hrr := hc.2 r (by simp)
      have hrn := h7 r (by simp)
      have e : P ++ r :: l = (P ++ [r]) ++ l := by simp
      rw [List.foldl_cons, e]
      rw [e] at hc hb
      have hnext : ∀ x ∈ l, r.2 + 1 < x.1 := fun x hx => (List.pairwise_append.1 hc.1).2.2 r (by simp) x hx
      refine ih (P ++ [r]) (notStep s r) hc hb ?_ ?_ ?_ (by show 1 ≤ r.2 + 1; omega) (by show r.2 + 1 ≤ 10000; omega) ?_ (fun x hx => by have := hnext x hx; show r.2 + 1 ≤ x.1; omega) ?_
      · show Canon (bif decide (s.2 < r.1) then _ else _)
        by_cases hh : s.2 < r.1
        · rw [decide_eq_true hh]; exact h1.snoc (by simp only; omega) fun q hq => h3 q hq
        · rw [decide_eq_false hh]; exact h1
      · show Bound (bif decide (s.2 < r.1) then _ else _)
        by_cases hh : s.2 < r.1
        · rw [decide_eq_true hh]
          intro q hq
          rcases List.mem_append.1 hq with hq | hq
          · exact h2 q hq
          · rw [List.mem_singleton.1 hq]; exact ⟨h4, by simp only; omega⟩
        · rw [decide_eq_false hh]; exact h2
      · show ∀ q ∈ (bif decide (s.2 < r.1) then s.1 ++ [(s.2, r.1 - 1)] else s.1), q.2 + 1 < r.2 + 1
        by_cases hh : s.2 < r.1
        · rw [decide_eq_true hh]
          intro q hq
          rcases List.mem_append.1 hq with hq | hq
          · have := h3 q hq; omega
          · rw [List.mem_singleton.1 hq]; simp only; omega
        · rw [decide_eq_false hh]; intro q hq; have := h3 q hq; omega
      · intro p hp
        show p.2 < r.2 + 1
        rcases List.mem_append.1 hp with hp | hp
        · have := h6 p hp; omega
        · rw [List.mem_singleton.1 hp]; omega
      · intro v
        show inR (bif decide (s.2 < r.1) then _ else _) v ↔ 1 ≤ v ∧ v < r.2 + 1 ∧ _
        rw [inR_app, inR_one]
        have hP : inR P v → v < s.2 := fun ⟨p, hp, a, b⟩ => by have := h6 p hp; omega
        by_cases hh : s.2 < r.1
        · rw [decide_eq_true hh, cond_true, inR_app, inR_one, h8]
          simp only
          constructor
          · rintro (⟨a, b, c⟩ | ⟨a, b⟩)
            · exact ⟨a, by omega, fun h => h.elim c fun h => by omega⟩
            · exact ⟨by omega, by omega, fun h => h.elim (fun h => by have := hP h; omega) fun h => by omega⟩
          · rintro ⟨a, b, c⟩
            by_cases h9 : v < s.2
            · exact .inl ⟨a, h9, fun h => c (.inl h)⟩
            · exact .inr ⟨by omega, by
                by_cases h10 : r.1 ≤ v
                · exact absurd (.inr ⟨h10, by omega⟩) c
                · omega⟩
        · rw [decide_eq_false hh, cond_false, h8]
          constructor
          · rintro ⟨a, b, c⟩
            exact ⟨a, by omega, fun h => h.elim c fun h => by omega⟩
          · rintro ⟨a, b, c⟩
            refine ⟨a, ?_, fun h => c (.inl h)⟩
            by_cases h10 : r.1 ≤ v
            · exact absurd (.inr ⟨h10, by omega⟩) c
            · omega
  have := h l [] ([], 1) (by simpa using hc) (by simpa using hl) Canon.nil (fun r hr => by cases hr) (fun q hq => by cases hq) (by simp) (by simp) (fun p hp => by cases hp) (fun r hr => (hl r hr).1) (fun v => ⟨fun h => absurd h inR_nil, fun ⟨a, b, _⟩ => by simp only at b; omega⟩)
  simpa [notTo] using this
theorem notL_ok (l : List Rg) (hc : Canon l) (hl : Bound l) : Canon (notL l) ∧ Bound (notL l) ∧ ∀ v, 1 ≤ v → v ≤ 9999 → (inR (notL l) v ↔ ¬ inR l v) := by
  obtain ⟨h1, h2, h3, h4, h5, h8, h6⟩ := notTo_ok l hc hl
  unfold notL
  generalize (notTo l).1 = o at *
  generalize (notTo l).2 = n at *
  by_cases hh : n ≤ 9999
  · rw [decide_eq_true hh, cond_true]
    refine ⟨h1.snoc hh h3, fun r hr => ?_, fun v a b => ?_⟩
    · rcases List.mem_append.1 hr with hr | hr
      · exact h2 r hr
      · rw [List.mem_singleton.1 hr]; exact ⟨h4, Int.le_refl _⟩
    · rw [inR_app, inR_one, h6]
      simp only
      constructor
      · rintro (⟨_, _, h⟩ | ⟨h, _⟩)
        · exact h
        · rintro ⟨p, hp, a1, a2⟩
          have := h8 p hp
          omega
      · intro h
        by_cases h7 : v < n
        · exact .inl ⟨a, h7, h⟩
        · exact .inr ⟨by omega, b⟩
  · rw [decide_eq_false hh, cond_false]
    refine ⟨h1, h2, fun v a b => ?_⟩
    rw [h6]
    exact ⟨fun h => h.2.2, fun h => ⟨a, by omega, h⟩⟩
def meetR (x y : Rg) : Rg := (max x.1 y.1, min x.2 y.2)
def okR (r : Rg) : Bool := decide (r.1 ≤ r.2)
def bothX (b : List Rg) (x : Rg) : List Rg := (b.map (meetR x)).filter okR
def bothL (a b : List Rg) : List Rg := a.flatMap (bothX b)
theorem both_ok (a b : List Rg) (ha : Canon a) (hb : Canon b) (hba : Bound a) : Canon (bothL a b) ∧ Bound (bothL a b) ∧ ∀ v, inR (bothL a b) v ↔ inR a v ∧ inR b v := by
  have hmem : ∀ r, r ∈ bothL a b ↔ ∃ x ∈ a, ∃ y ∈ b, r = meetR x y ∧ r.1 ≤ r.2 := fun r => by
    simp only [bothL, bothX, List.mem_flatMap, List.mem_filter, List.mem_map, okR, decide_eq_true_eq]
    constructor
    · rintro ⟨x, hx, ⟨y, hy, rfl⟩, h⟩; exact ⟨x, hx, y, hy, rfl, h⟩
    · rintro ⟨x, hx, y, hy, rfl, h⟩; exact ⟨x, hx, ⟨y, hy, rfl⟩, h⟩
  refine ⟨⟨?_, fun r hr => ?_⟩, fun r hr => ?_, fun v => ?_⟩
  · rw [bothL, List.pairwise_flatMap]
    refine ⟨fun x _ => ?_, ha.1.imp fun {x x'} hxx r hr r' hr' => ?_⟩
    · rw [bothX]
      refine List.Pairwise.filter _ (List.pairwise_map.2 (hb.1.imp fun {y y'} h => ?_))
      simp only [meetR]
      omega
    · simp only [bothX, List.mem_filter, List.mem_map] at hr hr'
      obtain ⟨⟨y, _, rfl⟩, -⟩ := hr
      obtain ⟨⟨y', _, rfl⟩, -⟩ := hr'
      simp only [meetR]
      omega
  · obtain ⟨x, hx, y, hy, rfl, h⟩ := (hmem r).1 hr
    exact h
  · obtain ⟨x, hx, y, hy, rfl, h⟩ := (hmem r).1 hr
    have := hba x hx
    simp only [meetR] at h ⊢
    omega
  · constructor
    · rintro ⟨r, hr, h1, h2⟩
      obtain ⟨x, hx, y, hy, rfl, h⟩ := (hmem r).1 hr
      simp only [meetR] at h1 h2
      exact ⟨⟨x, hx, by omega, by omega⟩, ⟨y, hy, by omega, by omega⟩⟩
    · rintro ⟨⟨x, hx, a1, a2⟩, ⟨y, hy, b1, b2⟩⟩
      exact ⟨meetR x y, (hmem _).2 ⟨x, hx, y, hy, rfl, by simp only [meetR]; omega⟩, by simp only [meetR]; omega, by simp only [meetR]; omega⟩
def faultAt (p : Int) : List Rg → Int
  | [] => 0
  | r :: l => bif rgOk r then (bif decide (r.1 ≤ p + 1) && decide (0 < p) then 21 else faultAt r.2 l) else 1
def faultL (l : List Rg) : Int := bif decide (l.length ≤ 50) then faultAt (-1) l else 2
theorem faultAt_ok : ∀ {l : List Rg} {p : Int}, faultAt p l = 0 → Canon l ∧ Bound l ∧ (0 < p → ∀ r ∈ l, p + 1 < r.1)
  | [], p, _ => ⟨Canon.nil, (fun r hr => by cases hr), fun _ r hr => by cases hr⟩
  | r :: l, p, h => by
    rw [faultAt] at h
    cases hr : rgOk r
    · rw [hr] at h; cases h
    · rw [hr, cond_true] at h
      obtain ⟨a1, a2, a3⟩ := rgOk_iff.1 hr
      cases hd : decide (r.1 ≤ p + 1) && decide (0 < p)
      · rw [hd, cond_false] at h
        obtain ⟨h1, h2, h3⟩ := faultAt_ok h
        have h4 := h3 (by omega)
        refine ⟨⟨List.pairwise_cons.2 ⟨h4, h1.1⟩, fun x hx => ?_⟩, fun x hx => ?_, fun hp x hx => ?_⟩
        · rcases List.mem_cons.1 hx with rfl | hx
          · exact a3
          · exact h1.2 x hx
        · rcases List.mem_cons.1 hx with rfl | hx
          · exact ⟨a1, a2⟩
          · exact h2 x hx
        · have h5 : p + 1 < r.1 := by
            simp only [Bool.and_eq_false_iff, decide_eq_false_iff_not] at hd
            omega
          rcases List.mem_cons.1 hx with rfl | hx
          · exact h5
          · have := h4 x hx; omega
      · rw [hd] at h; cases h
theorem faultL_ok {l : List Rg} (h : faultL l = 0) : Canon l ∧ Bound l ∧ l.length ≤ 50 := by
  unfold faultL at h
  cases hd : decide (l.length ≤ 50)
  · rw [hd] at h; cases h
  · rw [hd, cond_true] at h
    obtain ⟨h1, h2, -⟩ := faultAt_ok h
    exact ⟨h1, h2, of_decide_eq_true hd⟩
end Go.Proofs.Ytnkafjkcjpajgaa
namespace Go.Proofs.Ytnkafjkcjpajgaa
open Go.RowKit
section
variable {P : Program} {F : Frm} {L : Tab} {d : Option Tmp} {ty : TypeId} {pos : String} {aft : Array Edge} {g : Option (Nat × Bool)} {ρ : Operand → AV} {hp : List Blk} {K : AV → List Blk → Prop}
theorem own_turn {M : Mm} {w : World} (hh : HeapOk F M hp w) {i n n' sz : Nat} {v v' : Value} {e : TypeId} {cs cs' : List T} (hi : hp[i]? = some (.row v e sz n cs)) (hb : ∀ b, v'.ownBlock = some b → v.ownBlock = some b) (hx : BlkOk M w (.row v' e sz n' cs')) : HeapOk F M (hp.set i (.row v' e sz n' cs')) w := by
  refine hh.step i rfl rfl rfl (Nat.le_refl _) (fun _ _ _ => rfl) (Ext.refl _ _) (fun p v h1 h2 => by rw [h2] at h1; cases h1) (fun j hj => by rw [List.getElem?_set_ne (Ne.symm hj)]) (fun x' hx' => ?_)
  have hlt : i < hp.length := (List.getElem?_eq_some_iff.1 hi).1
  rw [List.getElem?_set_self hlt] at hx'
  obtain rfl : Blk.row v' e sz n' cs' = x' := by injection hx'
  exact ⟨hx, fun b hb' => .inl ⟨_, hi, hb b hb'⟩⟩
theorem lo_own_hi (hL : TabOk P L) {t el : TypeId} {ti te : TI} {x y : Operand} {i n sz : Nat} {v : Value} {e : TypeId} {cs : List T} {k : IntKind} {z : Int} (l : Nat) (hl : l ≤ n) (hx : ρ x = .own i v) (hi : hp[i]? = some (.row v e sz n cs)) (hy : ρ y = .c (.lit (.int k z))) (hz : z = (l : Int)) (ht : L.look t = some ti) (hd : ti.d = .slice el) (hte : L.look el = some te) (hsz : te.size = sz)
    (h : ∀ v', K (.own i v') (hp.set i (.row v' e sz l (cs.take (l * sz))))) : LO P F ⟨d, .slice t x none (some y) none, ty, pos, aft, g⟩ ρ hp K := by
  refine ⟨fun M ev w he hh => ?_⟩
  have h1 := he x (by simp [Op.operands])
  rw [hx] at h1
  simp only [RA] at h1
  have h2 := he y (by simp [Op.operands])
  rw [hy] at h2
  simp only [RA, RT] at h2
  obtain ⟨xs, ho, hxs, hone, h0⟩ := hh.at_ i _ hi
  obtain ⟨A, c, rfl, hnc, hcm⟩ := ownO_shape ho
  subst hz
  have hb := run_sliceBound (P := P) (w := w) k (l : Int) c .sliceAcap (by omega) (by omega)
  have hr : (execOp ev ⟨d, .slice t x none (some y) none, ty, pos, aft, g⟩).run P w = .ok (.value (.slice A l c)) w := by
    have hz : (if c = 0 then A else A.map (·.add 0)) = A := by
      cases A with
      | none => split <;> rfl
      | some ad => split <;> simp [add_zero']
    simp [execOp, Instr.sliceAt, Instr.slice, Instr.sliceBounds, h1.1, h2, run_underlying (hL.slice ht hd), hL.sizeOf hte, hb, hsz]
    first | done | exact hz | simpa using hz
  rw [hr]
  have hd := ho.take hl
  exact ⟨M, _, _, h (.slice A l c), Ext.refl _ _, own_turn hh hi (fun b hb => by cases A <;> exact hb) ⟨_, hd, hxs.take _, fun x hx => hone x (List.mem_of_mem_take hx), h0⟩, by simp only [RA]; exact ⟨trivial, own_oneO hd⟩⟩
theorem zQh {t el : TypeId} {ti te : TI} {x y : Operand} {i n sz : Nat} {v : Value} {e : TypeId} {cs : List T} {k : IntKind} {z : Int} {hp' : Value → List Blk} (l : Nat) (hl : l ≤ n) (h : ∀ v', K (.own i v') (hp' v')) (hz : z = (l : Int) := by exact rfl) (hL : TabOk P L := by exact tok) (hx : ρ x = .own i v := by exact rfl) (hi : hp[i]? = some (.row v e sz n cs) := by exact rfl) (hy : ρ y = .c (.lit (.int k z)) := by exact rfl) (ht : L.look t = some ti := by exact rfl) (hd : ti.d = .slice el := by exact rfl) (hte : L.look el = some te := by exact rfl) (hsz : te.size = sz := by exact rfl)
    (hf : ∀ v', evl (hp.set i (.row v' e sz l (cs.take (l * sz)))) = some (hp' v') := by exact fun _ => rfl) : LO P F ⟨d, .slice t x none (some y) none, ty, pos, aft, g⟩ ρ hp K :=
  lo_own_hi hL l hl hx hi hy hz ht hd hte hsz fun v' => by rw [← evl_eq (hf v')]; exact h v'
end
end Go.Proofs.Ytnkafjkcjpajgaa
namespace Go.Proofs.Ytnkafjkcjpajgaa
open Go.RowKit
section
variable {P : Program} {F : Frm} {d : Option Tmp} {ty : TypeId} {pos : String} {aft : Array Edge} {g : Option (Nat × Bool)} {ρ : Operand → AV} {hp : List Blk} {K : AV → List Blk → Prop}
/-- the sum of two counts -/
theorem zAn {t t' : TypeId} {x y : Operand} {a b : Nat} (h : K (.c (.lit (.int .i64 ((a + b : Nat) : Int)))) hp) (hx : ρ x = .c (.lit (.int .i64 (a : Nat))) := by exact rfl) (hy : ρ y = .c (.lit (.int .i64 (b : Nat))) := by exact rfl) (hb : a + b ≤ 9223372036854775807 := by first | omega | (dsimp only at *; omega)) : LO P F ⟨d, .binOp .add t x y t', ty, pos, aft, g⟩ ρ hp K :=
  lo_add hx hy (by rw [IntWalk.i64_in _ (by omega)]; omega) h
end
/-- the driver, for sums of counts -/
theorem gA {G G' : Prop} (h : G') (e : Hold G' → G := by
    intro h
    first | refine zNil ?_ | refine zOp ?_ | refine zOpn ?_ | refine zNo ?_ | refine zNon ?_ | refine zUn ?_ | refine zUnn ?_ | refine zYes ?_ | refine zYesn ?_ | (refine zkL ?_; first | refine zL1 ?_ | refine zL2 ?_ | refine zL3 ?_ | refine zLp ?_) | refine zM ?_ | (refine zkF ?_; first | refine zF1 ?_ | refine zF2 ?_ | refine zF3 ?_) | refine zA ?_ | (refine zkB ?_; first | refine zC5 ?_ | refine zC6 ?_ | refine zC1 ?_ | refine zC2 ?_ | refine zC3 ?_ | refine zC4 ?_ | refine zS5 ?_ | refine zS6 ?_ | refine zS1 ?_ | refine zS2 ?_ | refine zS3 ?_ | refine zS4 ?_ | refine zAn ?_ | refine zQ1 ?_ | refine zQ2 ?_ | refine zQ3 ?_ | refine zQ4 ?_ | refine zQ5 ?_ | refine zQ6 ?_) | (refine zkI ?_; first | refine zN3 ?_ | refine zN4 ?_) | refine zS ?_ | refine zPt ?_ | refine zPf ?_ | refine zE ?_ | refine zEA ?_ | refine zNot ?_ | refine zBd ?_ | refine zFn ?_ | refine zK1 ?_ | refine zK2 ?_ | refine zBs ?_ | refine ac_seq ?_ | refine ac_block ?_ | refine ac_region ?_ | refine ac_skip ?_ | refine ac_exit ?_ | refine ac_ret ?_ | refine zT ?_ | refine zF ?_
    repeat (first | refine zNil ?_ | refine zOp ?_ | refine zOpn ?_ | refine zNo ?_ | refine zNon ?_ | refine zUn ?_ | refine zUnn ?_ | refine zYes ?_ | refine zYesn ?_ | (refine zkL ?_; first | refine zL1 ?_ | refine zL2 ?_ | refine zL3 ?_ | refine zLp ?_) | refine zM ?_ | (refine zkF ?_; first | refine zF1 ?_ | refine zF2 ?_ | refine zF3 ?_) | refine zA ?_ | (refine zkB ?_; first | refine zC5 ?_ | refine zC6 ?_ | refine zC1 ?_ | refine zC2 ?_ | refine zC3 ?_ | refine zC4 ?_ | refine zS5 ?_ | refine zS6 ?_ | refine zS1 ?_ | refine zS2 ?_ | refine zS3 ?_ | refine zS4 ?_ | refine zAn ?_ | refine zQ1 ?_ | refine zQ2 ?_ | refine zQ3 ?_ | refine zQ4 ?_ | refine zQ5 ?_ | refine zQ6 ?_) | (refine zkI ?_; first | refine zN3 ?_ | refine zN4 ?_) | refine zS ?_ | refine zPt ?_ | refine zPf ?_ | refine zE ?_ | refine zEA ?_ | refine zNot ?_ | refine zBd ?_ | refine zFn ?_ | refine zK1 ?_ | refine zK2 ?_ | refine zBs ?_ | refine ac_seq ?_ | refine ac_block ?_ | refine ac_region ?_ | refine ac_skip ?_ | refine ac_exit ?_ | refine ac_ret ?_ | refine zT ?_ | refine zF ?_)
    exact h.out) : G := e ⟨h⟩
end Go.Proofs.Ytnkafjkcjpajgaa
