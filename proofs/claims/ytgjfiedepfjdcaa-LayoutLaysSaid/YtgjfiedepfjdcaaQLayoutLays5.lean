/-
  Texts of this proof, part 5: Ab26 Ab27 Ab20 Ab21 Ab22 Ab23 Ab24 Ab30 Ab32 Ab33 Ab34 Ab35 Ab36 Ab37 Ab38 Ab40 Ab45.
-/
import Derived.Test.YtgjfiedepfjdcaaQLayoutLays4
import Derived.Laws.IdiomRangeMap
import Derived.Laws.Strings2
import Derived.Lib.AppendStr
import Derived.Lib.AppendZerosOnto
import Derived.Lib.MinMax
import Derived.WideKeyEntry
namespace Go.Proofs.Ytgjfiedepfjdcaa
open Go.RowKit
structure Hold (G : Prop) : Prop where
  out : G
/-- operations and control, asq far asq they are plain -/
theorem gG {G G' : Prop} (h : G') (e : Hold G' → G := by
    intro h
    first | refine zNil ?_ | refine zOp ?_ | refine zOpn ?_ | refine zNo ?_ | refine zNon ?_ | refine zUn ?_ | refine zUnn ?_ | refine zYes ?_ | refine zYesn ?_ | (refine zkL ?_; first | refine zL1 ?_ | refine zL2 ?_ | refine zL3 ?_ | refine zLp ?_) | refine zM ?_ | (refine zkF ?_; first | refine zF1 ?_ | refine zF2 ?_ | refine zF3 ?_) | refine zA ?_ | (refine zkB ?_; first | refine zC5 ?_ | refine zC6 ?_ | refine zC1 ?_ | refine zC2 ?_ | refine zC3 ?_ | refine zC4 ?_ | refine zS5 ?_ | refine zS6 ?_ | refine zS1 ?_ | refine zS2 ?_ | refine zS3 ?_ | refine zS4 ?_ | refine zInc ?_ | refine zQ1 ?_ | refine zQ2 ?_ | refine zQ3 ?_ | refine zQ4 ?_ | refine zQ5 ?_ | refine zQ6 ?_) | (refine zkI ?_; first | refine zN3 ?_ | refine zN4 ?_) | refine zS ?_ | refine zPt ?_ | refine zPf ?_ | refine zE ?_ | refine zEA ?_ | refine zNot ?_ | refine zBd ?_ | refine zFn ?_ | refine zK1 ?_ | refine zK2 ?_ | refine zBs ?_ | refine ac_seq ?_ | refine ac_block ?_ | refine ac_region ?_ | refine ac_skip ?_ | refine ac_exit ?_ | refine ac_ret ?_ | refine zT ?_ | refine zF ?_
    repeat (first | refine zNil ?_ | refine zOp ?_ | refine zOpn ?_ | refine zNo ?_ | refine zNon ?_ | refine zUn ?_ | refine zUnn ?_ | refine zYes ?_ | refine zYesn ?_ | (refine zkL ?_; first | refine zL1 ?_ | refine zL2 ?_ | refine zL3 ?_ | refine zLp ?_) | refine zM ?_ | (refine zkF ?_; first | refine zF1 ?_ | refine zF2 ?_ | refine zF3 ?_) | refine zA ?_ | (refine zkB ?_; first | refine zC5 ?_ | refine zC6 ?_ | refine zC1 ?_ | refine zC2 ?_ | refine zC3 ?_ | refine zC4 ?_ | refine zS5 ?_ | refine zS6 ?_ | refine zS1 ?_ | refine zS2 ?_ | refine zS3 ?_ | refine zS4 ?_ | refine zInc ?_ | refine zQ1 ?_ | refine zQ2 ?_ | refine zQ3 ?_ | refine zQ4 ?_ | refine zQ5 ?_ | refine zQ6 ?_) | (refine zkI ?_; first | refine zN3 ?_ | refine zN4 ?_) | refine zS ?_ | refine zPt ?_ | refine zPf ?_ | refine zE ?_ | refine zEA ?_ | refine zNot ?_ | refine zBd ?_ | refine zFn ?_ | refine zK1 ?_ | refine zK2 ?_ | refine zBs ?_ | refine ac_seq ?_ | refine ac_block ?_ | refine ac_region ?_ | refine ac_skip ?_ | refine ac_exit ?_ | refine ac_ret ?_ | refine zT ?_ | refine zF ?_)
    exact h.out) : G := e ⟨h⟩
/-- the same, but no rows that are written out -/
theorem gX {G G' : Prop} (h : G') (e : Hold G' → G := by
    intro h
    first | refine zNil ?_ | refine zOp ?_ | refine zOpn ?_ | refine zNo ?_ | refine zNon ?_ | refine zUn ?_ | refine zUnn ?_ | refine zYes ?_ | refine zYesn ?_ | (refine zkL ?_; first | refine zL1 ?_ | refine zL2 ?_ | refine zL3 ?_ | refine zLp ?_) | refine zM ?_ | (refine zkF ?_; first | refine zF1 ?_ | refine zF2 ?_ | refine zF3 ?_) | refine zA ?_ | (refine zkB ?_; first | refine zC5 ?_ | refine zC6 ?_ | refine zC1 ?_ | refine zC2 ?_ | refine zC3 ?_ | refine zC4 ?_ | refine zS5 ?_ | refine zS6 ?_ | refine zS1 ?_ | refine zS2 ?_ | refine zS3 ?_ | refine zS4 ?_ | refine zInc ?_ | refine zQ1 ?_ | refine zQ2 ?_ | refine zQ3 ?_ | refine zQ4 ?_ | refine zQ5 ?_ | refine zQ6 ?_) | (refine zkI ?_; first | refine zN3 ?_ | refine zN4 ?_) | refine zS ?_ | refine zPt ?_ | refine zPf ?_ | refine zE ?_ | refine zEA ?_ | refine zNot ?_ | refine zBd ?_ | refine zFn ?_ | refine zK1 ?_ | refine zK2 ?_ | refine ac_seq ?_ | refine ac_block ?_ | refine ac_region ?_ | refine ac_skip ?_ | refine ac_exit ?_ | refine ac_ret ?_ | refine zT ?_ | refine zF ?_
    repeat (first | refine zNil ?_ | refine zOp ?_ | refine zOpn ?_ | refine zNo ?_ | refine zNon ?_ | refine zUn ?_ | refine zUnn ?_ | refine zYes ?_ | refine zYesn ?_ | (refine zkL ?_; first | refine zL1 ?_ | refine zL2 ?_ | refine zL3 ?_ | refine zLp ?_) | refine zM ?_ | (refine zkF ?_; first | refine zF1 ?_ | refine zF2 ?_ | refine zF3 ?_) | refine zA ?_ | (refine zkB ?_; first | refine zC5 ?_ | refine zC6 ?_ | refine zC1 ?_ | refine zC2 ?_ | refine zC3 ?_ | refine zC4 ?_ | refine zS5 ?_ | refine zS6 ?_ | refine zS1 ?_ | refine zS2 ?_ | refine zS3 ?_ | refine zS4 ?_ | refine zInc ?_ | refine zQ1 ?_ | refine zQ2 ?_ | refine zQ3 ?_ | refine zQ4 ?_ | refine zQ5 ?_ | refine zQ6 ?_) | (refine zkI ?_; first | refine zN3 ?_ | refine zN4 ?_) | refine zS ?_ | refine zPt ?_ | refine zPf ?_ | refine zE ?_ | refine zEA ?_ | refine zNot ?_ | refine zBd ?_ | refine zFn ?_ | refine zK1 ?_ | refine zK2 ?_ | refine ac_seq ?_ | refine ac_block ?_ | refine ac_region ?_ | refine ac_skip ?_ | refine ac_exit ?_ | refine ac_ret ?_ | refine zT ?_ | refine zF ?_)
    exact h.out) : G := e ⟨h⟩
/-- operations alone -/
theorem gO {G G' : Prop} (h : G') (e : Hold G' → G := by
    intro h
    first | refine zNil ?_ | refine zOp ?_ | refine zOpn ?_ | refine zNo ?_ | refine zNon ?_ | refine zUn ?_ | refine zUnn ?_ | refine zYes ?_ | refine zYesn ?_ | (refine zkL ?_; first | refine zL1 ?_ | refine zL2 ?_ | refine zL3 ?_ | refine zLp ?_) | refine zM ?_ | (refine zkF ?_; first | refine zF1 ?_ | refine zF2 ?_ | refine zF3 ?_) | refine zA ?_ | (refine zkB ?_; first | refine zC5 ?_ | refine zC6 ?_ | refine zC1 ?_ | refine zC2 ?_ | refine zC3 ?_ | refine zC4 ?_ | refine zS5 ?_ | refine zS6 ?_ | refine zS1 ?_ | refine zS2 ?_ | refine zS3 ?_ | refine zS4 ?_ | refine zInc ?_ | refine zQ1 ?_ | refine zQ2 ?_ | refine zQ3 ?_ | refine zQ4 ?_ | refine zQ5 ?_ | refine zQ6 ?_) | (refine zkI ?_; first | refine zN3 ?_ | refine zN4 ?_) | refine zS ?_ | refine zPt ?_ | refine zPf ?_ | refine zE ?_ | refine zEA ?_ | refine zNot ?_ | refine zBd ?_ | refine zFn ?_ | refine zK1 ?_ | refine zK2 ?_ | refine zBs ?_
    repeat (first | refine zNil ?_ | refine zOp ?_ | refine zOpn ?_ | refine zNo ?_ | refine zNon ?_ | refine zUn ?_ | refine zUnn ?_ | refine zYes ?_ | refine zYesn ?_ | (refine zkL ?_; first | refine zL1 ?_ | refine zL2 ?_ | refine zL3 ?_ | refine zLp ?_) | refine zM ?_ | (refine zkF ?_; first | refine zF1 ?_ | refine zF2 ?_ | refine zF3 ?_) | refine zA ?_ | (refine zkB ?_; first | refine zC5 ?_ | refine zC6 ?_ | refine zC1 ?_ | refine zC2 ?_ | refine zC3 ?_ | refine zC4 ?_ | refine zS5 ?_ | refine zS6 ?_ | refine zS1 ?_ | refine zS2 ?_ | refine zS3 ?_ | refine zS4 ?_ | refine zInc ?_ | refine zQ1 ?_ | refine zQ2 ?_ | refine zQ3 ?_ | refine zQ4 ?_ | refine zQ5 ?_ | refine zQ6 ?_) | (refine zkI ?_; first | refine zN3 ?_ | refine zN4 ?_) | refine zS ?_ | refine zPt ?_ | refine zPf ?_ | refine zE ?_ | refine zEA ?_ | refine zNot ?_ | refine zBd ?_ | refine zFn ?_ | refine zK1 ?_ | refine zK2 ?_ | refine zBs ?_)
    exact h.out) : G := e ⟨h⟩
/-- operations of a region that draws, asq long asq they only look -/
theorem gW {G G' : Prop} (h : G') (e : Hold G' → G := by
    intro h
    first | (apply w_q; (focus exact rfl); (focus exact rfl); focus (intro _; (first | (refine zkL ?_; first | refine zL1 ?_ | refine zL2 ?_ | refine zL3 ?_ | refine zLp ?_) | refine zM ?_ | (refine zkF ?_; first | refine zF1 ?_ | refine zF2 ?_ | refine zF3 ?_) | refine zA ?_ | (refine zkB ?_; first | refine zC5 ?_ | refine zC6 ?_ | refine zC1 ?_ | refine zC2 ?_ | refine zC3 ?_ | refine zC4 ?_ | refine zS5 ?_ | refine zS6 ?_ | refine zS1 ?_ | refine zS2 ?_ | refine zS3 ?_ | refine zS4 ?_ | refine zInc ?_ | refine zQ1 ?_ | refine zQ2 ?_ | refine zQ3 ?_ | refine zQ4 ?_ | refine zQ5 ?_ | refine zQ6 ?_) | (refine zkI ?_; first | refine zN3 ?_ | refine zN4 ?_) | refine zPt ?_ | refine zPf ?_ | refine zE ?_ | refine zEA ?_ | refine zNot ?_ | refine zBd ?_ | refine zBs ?_ | refine zFn ?_ | refine zK1 ?_ | refine zK2 ?_ | (refine zkI ?_; first | refine zN1 (fun _ => ?_) | refine zN2 (fun _ => ?_))); exact det_refl)) | (apply w_p; (focus exact rfl); (focus exact rfl); focus (intro _; (first | (refine zkL ?_; first | refine zL1 ?_ | refine zL2 ?_ | refine zL3 ?_ | refine zLp ?_) | refine zM ?_ | (refine zkF ?_; first | refine zF1 ?_ | refine zF2 ?_ | refine zF3 ?_) | refine zA ?_ | (refine zkB ?_; first | refine zC5 ?_ | refine zC6 ?_ | refine zC1 ?_ | refine zC2 ?_ | refine zC3 ?_ | refine zC4 ?_ | refine zS5 ?_ | refine zS6 ?_ | refine zS1 ?_ | refine zS2 ?_ | refine zS3 ?_ | refine zS4 ?_ | refine zInc ?_ | refine zQ1 ?_ | refine zQ2 ?_ | refine zQ3 ?_ | refine zQ4 ?_ | refine zQ5 ?_ | refine zQ6 ?_) | (refine zkI ?_; first | refine zN3 ?_ | refine zN4 ?_) | refine zPt ?_ | refine zPf ?_ | refine zE ?_ | refine zEA ?_ | refine zNot ?_ | refine zBd ?_ | refine zBs ?_ | refine zFn ?_ | refine zK1 ?_ | refine zK2 ?_ | (refine zkI ?_; first | refine zN1 (fun _ => ?_) | refine zN2 (fun _ => ?_))); exact det_refl)) | (apply w_un; (focus exact rfl); (focus exact rfl); (focus exact rfl); (focus exact rfl)) | (apply w_no; (focus exact rfl); (focus exact rfl); (focus exact rfl); (focus exact rfl); focus (first | rfl | assumption | exact neg_t (by assumption) | exact neg_f (by assumption))) | (apply w_qg; (focus exact rfl); (focus exact rfl); (focus exact rfl); (focus exact rfl); (focus (first | rfl | assumption | exact neg_t (by assumption) | exact neg_f (by assumption))); (focus (intro _; (first | (refine zkL ?_; first | refine zL1 ?_ | refine zL2 ?_ | refine zL3 ?_ | refine zLp ?_) | refine zM ?_ | (refine zkF ?_; first | refine zF1 ?_ | refine zF2 ?_ | refine zF3 ?_) | refine zA ?_ | (refine zkB ?_; first | refine zC5 ?_ | refine zC6 ?_ | refine zC1 ?_ | refine zC2 ?_ | refine zC3 ?_ | refine zC4 ?_ | refine zS5 ?_ | refine zS6 ?_ | refine zS1 ?_ | refine zS2 ?_ | refine zS3 ?_ | refine zS4 ?_ | refine zInc ?_ | refine zQ1 ?_ | refine zQ2 ?_ | refine zQ3 ?_ | refine zQ4 ?_ | refine zQ5 ?_ | refine zQ6 ?_) | (refine zkI ?_; first | refine zN3 ?_ | refine zN4 ?_) | refine zPt ?_ | refine zPf ?_ | refine zE ?_ | refine zEA ?_ | refine zNot ?_ | refine zBd ?_ | refine zBs ?_ | refine zFn ?_ | refine zK1 ?_ | refine zK2 ?_ | (refine zkI ?_; first | refine zN1 (fun _ => ?_) | refine zN2 (fun _ => ?_))); exact det_refl)))
    repeat (first | (apply w_q; (focus exact rfl); (focus exact rfl); focus (intro _; (first | (refine zkL ?_; first | refine zL1 ?_ | refine zL2 ?_ | refine zL3 ?_ | refine zLp ?_) | refine zM ?_ | (refine zkF ?_; first | refine zF1 ?_ | refine zF2 ?_ | refine zF3 ?_) | refine zA ?_ | (refine zkB ?_; first | refine zC5 ?_ | refine zC6 ?_ | refine zC1 ?_ | refine zC2 ?_ | refine zC3 ?_ | refine zC4 ?_ | refine zS5 ?_ | refine zS6 ?_ | refine zS1 ?_ | refine zS2 ?_ | refine zS3 ?_ | refine zS4 ?_ | refine zInc ?_ | refine zQ1 ?_ | refine zQ2 ?_ | refine zQ3 ?_ | refine zQ4 ?_ | refine zQ5 ?_ | refine zQ6 ?_) | (refine zkI ?_; first | refine zN3 ?_ | refine zN4 ?_) | refine zPt ?_ | refine zPf ?_ | refine zE ?_ | refine zEA ?_ | refine zNot ?_ | refine zBd ?_ | refine zBs ?_ | refine zFn ?_ | refine zK1 ?_ | refine zK2 ?_ | (refine zkI ?_; first | refine zN1 (fun _ => ?_) | refine zN2 (fun _ => ?_))); exact det_refl)) | (apply w_p; (focus exact rfl); (focus exact rfl); focus (intro _; (first | (refine zkL ?_; first | refine zL1 ?_ | refine zL2 ?_ | refine zL3 ?_ | refine zLp ?_) | refine zM ?_ | (refine zkF ?_; first | refine zF1 ?_ | refine zF2 ?_ | refine zF3 ?_) | refine zA ?_ | (refine zkB ?_; first | refine zC5 ?_ | refine zC6 ?_ | refine zC1 ?_ | refine zC2 ?_ | refine zC3 ?_ | refine zC4 ?_ | refine zS5 ?_ | refine zS6 ?_ | refine zS1 ?_ | refine zS2 ?_ | refine zS3 ?_ | refine zS4 ?_ | refine zInc ?_ | refine zQ1 ?_ | refine zQ2 ?_ | refine zQ3 ?_ | refine zQ4 ?_ | refine zQ5 ?_ | refine zQ6 ?_) | (refine zkI ?_; first | refine zN3 ?_ | refine zN4 ?_) | refine zPt ?_ | refine zPf ?_ | refine zE ?_ | refine zEA ?_ | refine zNot ?_ | refine zBd ?_ | refine zBs ?_ | refine zFn ?_ | refine zK1 ?_ | refine zK2 ?_ | (refine zkI ?_; first | refine zN1 (fun _ => ?_) | refine zN2 (fun _ => ?_))); exact det_refl)) | (apply w_un; (focus exact rfl); (focus exact rfl); (focus exact rfl); (focus exact rfl)) | (apply w_no; (focus exact rfl); (focus exact rfl); (focus exact rfl); (focus exact rfl); focus (first | rfl | assumption | exact neg_t (by assumption) | exact neg_f (by assumption))) | (apply w_qg; (focus exact rfl); (focus exact rfl); (focus exact rfl); (focus exact rfl); (focus (first | rfl | assumption | exact neg_t (by assumption) | exact neg_f (by assumption))); (focus (intro _; (first | (refine zkL ?_; first | refine zL1 ?_ | refine zL2 ?_ | refine zL3 ?_ | refine zLp ?_) | refine zM ?_ | (refine zkF ?_; first | refine zF1 ?_ | refine zF2 ?_ | refine zF3 ?_) | refine zA ?_ | (refine zkB ?_; first | refine zC5 ?_ | refine zC6 ?_ | refine zC1 ?_ | refine zC2 ?_ | refine zC3 ?_ | refine zC4 ?_ | refine zS5 ?_ | refine zS6 ?_ | refine zS1 ?_ | refine zS2 ?_ | refine zS3 ?_ | refine zS4 ?_ | refine zInc ?_ | refine zQ1 ?_ | refine zQ2 ?_ | refine zQ3 ?_ | refine zQ4 ?_ | refine zQ5 ?_ | refine zQ6 ?_) | (refine zkI ?_; first | refine zN3 ?_ | refine zN4 ?_) | refine zPt ?_ | refine zPf ?_ | refine zE ?_ | refine zEA ?_ | refine zNot ?_ | refine zBd ?_ | refine zBs ?_ | refine zFn ?_ | refine zK1 ?_ | refine zK2 ?_ | (refine zkI ?_; first | refine zN1 (fun _ => ?_) | refine zN2 (fun _ => ?_))); exact det_refl))))
    exact h.out) : G := e ⟨h⟩
end Go.Proofs.Ytgjfiedepfjdcaa
namespace Go.Proofs.Ytgjfiedepfjdcaa
open Go.RowKit
section
variable {P : Program} {F : Frm} {d : Option Tmp} {ty : TypeId} {pos : String} {aft : Array Edge} {g : Option (Nat × Bool)} {ρ : Operand → AV} {hp : List Blk} {K : AV → List Blk → Prop}
theorem zMin {x y : Operand} {t t' : TypeId} {k k' : IntKind} {a b : Int} (h : K (.c (.lit (.int k (min a b)))) hp) (hx : ρ x = .c (.lit (.int k a)) := by exact rfl) (hy : ρ y = .c (.lit (.int k' b)) := by exact rfl) : LO P F ⟨d, .call { callee := .builtin .min, args := #[x, y], argTypes := #[t, t'] }, ty, pos, aft, g⟩ ρ hp K := by
  refine LO.same (fun M e w he hh => ?_) h
  have h1 := he x (by simp [Op.operands, Call.operands])
  have h2 := he y (by simp [Op.operands, Call.operands])
  rw [hx] at h1
  rw [hy] at h2
  simp only [RA, RT] at h1 h2
  refine ⟨.int k (min a b), ?_, by simp only [RA, RT]⟩
  simp [execOp, resolve, invoke, builtin, h1, h2, Go.Lib.run_min_ints]
end
end Go.Proofs.Ytgjfiedepfjdcaa
namespace Go.Proofs.Ytgjfiedepfjdcaa
open Go.RowKit
theorem HeapOk.take {F : Frm} {M : Mm} {hp : List Blk} {w : World} (h : HeapOk F M hp w) (k : Nat) : HeapOk F M (hp.take k) w := by
  have hg : ∀ (i : Nat) (x : Blk), (hp.take k)[i]? = some x → hp[i]? = some x := by
    intro i x hx
    rw [List.getElem?_take] at hx
    split at hx
    · exact hx
    · cases hx
  exact ⟨h.mem, h.ext, h.frm, fun i x hx => h.at_ i x (hg i x hx), fun i j x y b hx hy => h.sep i j x y b (hg i x hx) (hg j y hy), fun i x b hx => h.out i x b (hg i x hx)⟩
/-- the function, given values that read so and blocks of the caller's own, returns a value that reads so, the blocks turned -/
def AG (P : Program) (f : FuncId) (asq : List AV) (hs : List Blk) (R : AV → List Blk → Prop) : Prop :=
  Enters P f ∧ ∀ (F : Frm) (M : Mm) (w : World) (vs : List Value), HeapOk F M hs w → RAs M asq vs →
    Calls P f vs.toArray w fun e w' => ∃ v r hs' M', e = .returned v ∧ R r hs' ∧ Ext F.may M M' ∧ HeapOk F M' hs' w' ∧ RA M' r v
theorem AG.imp {P : Program} {f : FuncId} {asq : List AV} {hs : List Blk} {R R' : AV → List Blk → Prop} (h : AG P f asq hs R) (hi : ∀ r hs, R r hs → R' r hs) : AG P f asq hs R' :=
  ⟨h.1, fun F M w vs hM hv => (h.2 F M w vs hM hv).mono fun _ _ ⟨v, r, hs', M', h1, h2, h3⟩ => ⟨v, r, hs', M', h1, hi r hs' h2, h3⟩⟩
/-- the end of such a function: the first k blocks are handed back -/
structure FinG (L : Tab) (res : List ResultVar) (k : Nat) (R : AV → List Blk → Prop) (e : Exit) (σ : AS) : Prop where
  out : (e = .normal ∨ e = .ret) ∧ ∃ vs, OutsA L σ res vs ∧ R (outA vs) (σ.hp.take k)
section
variable {P : Program} {F : Frm} {L : Tab}
theorem ag_enter {f : FuncId} {fn : Func} {c : Code} {asq : List AV} {hs : List Blk} {R : AV → List Blk → Prop} {N : Nat} {res : List ResultVar} (k : Nat) (hL : TabOk P L) (hf : P.funcs[f]? = some fn) (hNt : fn.ntmps = N) (hres : fn.results = res.toArray) (hb : fn.body = some c) (hn : (fn.name == "runtime.NumGoroutine") = false) (hN : Nat.ble asq.length N = true)
    (h : ∀ F, AC P F c (FinG L res k R) ⟨initT N asq, hs, N⟩) : AG P f asq hs R := by
  refine ⟨⟨fn, hf, hn, by rw [hb]; rfl⟩, fun F M w vs hh hav => ?_⟩
  have hlen := hav.len
  have hNl := Nat.le_of_ble_eq_true hN
  refine calls_of_wp hf hb (wp_mono ((h ⟨F.w0, F.X, M, F.G, F.GX⟩).out M _ w ⟨?_, ?_, rfl, ⟨hh.mem, Ext.refl _ _, ⟨hh.frm.os, hh.frm.tape, hh.frm.output, hh.frm.size, hh.frm.block⟩, hh.at_, hh.sep, hh.out⟩⟩) ?_)
  · intro i
    simp only [initT]
    by_cases hi : i < asq.length
    · have : Nat.blt i N = true := Nat.ble_eq_true_of_le (by omega)
      rw [this, cond_true]
      have h1 : asq[i]? = some asq[i] := List.getElem?_eq_getElem hi
      obtain ⟨x, hx, hra⟩ := hav.get h1
      rw [List.getD_eq_getElem?_getD, h1]
      have h2 : i < vs.length := by omega
      have h3 : vs[i] = x := by rw [List.getElem?_eq_getElem h2] at hx; injection hx
      simp [Array.getD_eq_getD_getElem?, Array.getElem?_append, h2, h3]
      exact hra
    · have h1 : asq.getD i (.c (.lit undef)) = .c (.lit undef) := by
        rw [List.getD_eq_getElem?_getD, List.getElem?_eq_none (by omega)]; rfl
      rw [h1]
      have h2 : ¬ i < vs.length := by omega
      have h3 : (vs.toArray ++ Array.replicate (fn.ntmps - vs.toArray.size) undef).getD i undef = undef := by
        simp [Array.getD_eq_getD_getElem?, Array.getElem?_append, h2, Array.getElem?_replicate]
        split <;> rfl
      rw [h3]
      cases Nat.blt i N <;> simp only [cond_true, cond_false, RA, RT]
  · simp [hNt]; omega
  · rintro e' a' w' ⟨M', σ', ⟨⟨he', vs', ho, hK⟩⟩, hr⟩
    rw [show res = fn.results.toList by rw [hres]] at ho
    obtain ⟨u, hu', hRA⟩ := resultsA_sound hL hr ho
    have hx : Ext F.may M M' := hr.heap.ext
    have hh' : HeapOk F M' σ'.hp w' := ⟨hr.heap.mem, hh.ext.trans hx, ⟨hr.heap.frm.os, hr.heap.frm.tape, hr.heap.frm.output, hr.heap.frm.size, hr.heap.frm.block⟩, hr.heap.at_, hr.heap.sep, hr.heap.out⟩
    have hfin : a'.defers = [] ∧ ∃ v, (results fn a'.tmps).run P w' = .ok v w' ∧ ∃ v' r hs' M', Ending.returned v = .returned v' ∧ R r hs' ∧ Ext F.may M M' ∧ HeapOk F M' hs' w' ∧ RA M' r v' :=
      ⟨hr.defers, u, hu', u, outA vs', σ'.hp.take k, M', rfl, hK, hx, hh'.take k, hRA⟩
    rcases he' with rfl | rfl <;> exact hfin
end
def selB (hp : List Blk) : List Nat → Option (List Blk)
  | [] => some []
  | i :: is => match hp[i]?, selB hp is with | some x, some r => some (x :: r) | _, _ => none
def freshB : List Nat → Bool
  | [] => true
  | i :: is => !is.contains i && freshB is
def putB (hp : List Blk) : List Nat → List Blk → List Blk
  | [], hs => hp ++ hs
  | _ :: _, [] => hp
  | i :: is, x :: hs => (putB hp is hs).set i x
def posB (hp : List Blk) (sel : List Nat) (i : Nat) : Nat := match sel[i]? with | some j => j | none => hp.length + (i - sel.length)
theorem selB_get {hp : List Blk} : ∀ {sel : List Nat} {hs : List Blk}, selB hp sel = some hs → ∀ {i : Nat} {x : Blk}, hs[i]? = some x → ∃ j : Nat, sel[i]? = some j ∧ hp[j]? = some x
  | [], hs, h, i, x, hx => by simp only [selB, Option.some.injEq] at h; subst h; simp at hx
  | k :: is, hs, h, i, x, hx => by
    simp only [selB] at h
    cases h1 : hp[k]? with
    | none => rw [h1] at h; cases h
    | some y =>
      cases h2 : selB hp is with
      | none => rw [h1, h2] at h; cases h
      | some r =>
        rw [h1, h2] at h
        simp only [Option.some.injEq] at h
        subst h
        cases i with
        | zero => simp only [List.getElem?_cons_zero, Option.some.injEq] at hx; subst hx; exact ⟨k, rfl, h1⟩
        | succ i => obtain ⟨j, h3, h4⟩ := selB_get h2 (i := i) (by simpa using hx); exact ⟨j, by simpa using h3, h4⟩
theorem freshB_inj : ∀ {sel : List Nat}, freshB sel = true → ∀ {i i' j : Nat}, sel[i]? = some j → sel[i']? = some j → i = i'
  | [], _, i, i', j, h, _ => by simp at h
  | k :: is, hf, i, i', j, h, h' => by
    simp only [freshB, Bool.and_eq_true, Bool.not_eq_true', List.contains_eq_mem, decide_eq_false_iff_not] at hf
    cases i with
    | zero =>
      simp only [List.getElem?_cons_zero, Option.some.injEq] at h
      cases i' with
      | zero => rfl
      | succ i' => simp only [List.getElem?_cons_succ] at h'; exact absurd (h ▸ List.mem_of_getElem? h') hf.1
    | succ i =>
      simp only [List.getElem?_cons_succ] at h
      cases i' with
      | zero => simp only [List.getElem?_cons_zero, Option.some.injEq] at h'; exact absurd (h' ▸ List.mem_of_getElem? h) hf.1
      | succ i' => simp only [List.getElem?_cons_succ] at h'; rw [freshB_inj hf.2 h h']
theorem putB_get {hp : List Blk} : ∀ {sel : List Nat} {hs : List Blk}, sel.length ≤ hs.length → ∀ {j : Nat} {x : Blk}, (putB hp sel hs)[j]? = some x → (∃ i, j = posB hp sel i ∧ hs[i]? = some x) ∨ (hp[j]? = some x ∧ j ∉ sel)
  | [], hs, _, j, x, h => by
    simp only [putB] at h
    rcases Nat.lt_or_ge j hp.length with hj | hj
    · rw [List.getElem?_append_left hj] at h
      exact .inr ⟨h, by simp⟩
    · rw [List.getElem?_append_right hj] at h
      exact .inl ⟨j - hp.length, by simp only [posB, List.getElem?_nil, List.length_nil]; omega, h⟩
  | k :: is, [], hl, _, _, _ => by simp at hl
  | k :: is, y :: hs, hl, j, x, h => by
    simp only [putB, List.getElem?_set] at h
    split at h
    · rename_i hkj
      subst hkj
      split at h
      · exact .inl ⟨0, rfl, by simpa using h⟩
      · cases h
    · rename_i hkj
      rcases putB_get (by simpa using hl) h with ⟨i, h1, h2⟩ | ⟨h1, h2⟩
      · refine .inl ⟨i + 1, ?_, by simpa using h2⟩
        rw [h1]
        simp only [posB, List.getElem?_cons_succ, List.length_cons]
        split <;> omega
      · exact .inr ⟨h1, by simp [h2, Ne.symm hkj]⟩
theorem sub_gx {F : Frm} {M : Mm} {hp hs : List Blk} {w : World} {sel : List Nat} (h : HeapOk F M hp w) (hs' : selB hp sel = some hs) : ∀ x ∈ globTab, ¬ ∃ (i : Nat) (y : Blk), hs[i]? = some y ∧ y.blk = some x.1 := by
  rintro x hx ⟨i, y, h1, h2⟩
  obtain ⟨j, _, h3⟩ := selB_get hs' h1
  have hl := glob_lt F.G hx
  rcases (h.out j y x.1 h3 h2).1 with h4 | h4
  · exact F.GX x hx h4
  · omega
def subF (M : Mm) (hs : List Blk) (w : World) (hG : Glob w) (hX : ∀ x ∈ globTab, ¬ ∃ (i : Nat) (y : Blk), hs[i]? = some y ∧ y.blk = some x.1) : Frm := ⟨w, fun b => ∃ (i : Nat) (x : Blk), hs[i]? = some x ∧ x.blk = some b, M, hG, hX⟩
theorem heap_sel {F : Frm} {M : Mm} {hp hs : List Blk} {w : World} {sel : List Nat} (h : HeapOk F M hp w) (hs' : selB hp sel = some hs) (hf : freshB sel = true) : HeapOk (subF M hs w h.glob (sub_gx h hs')) M hs w := by
  refine ⟨h.mem, Ext.refl _ _, ⟨rfl, rfl, rfl, Nat.le_refl _, fun _ _ _ => rfl⟩, fun i x hx => ?_, fun i j x y b hx hy hxb hyb => ?_, fun i x b hx hxb => ?_⟩
  · obtain ⟨j, _, h2⟩ := selB_get hs' hx
    exact h.at_ j x h2
  · obtain ⟨k, h1, h2⟩ := selB_get hs' hx
    obtain ⟨k', h3, h4⟩ := selB_get hs' hy
    have := h.sep k k' x y b h2 h4 hxb hyb
    subst this
    exact freshB_inj hf h1 h3
  · obtain ⟨j, _, h2⟩ := selB_get hs' hx
    exact ⟨.inl ⟨i, x, hx, hxb⟩, (h.out j x b h2 hxb).2⟩
theorem sub_may {F : Frm} {M : Mm} {hp hs : List Blk} {w : World} {sel : List Nat} (h : HeapOk F M hp w) (hs' : selB hp sel = some hs) (b : Nat) (hb : (subF M hs w h.glob (sub_gx h hs')).may b) : F.may b := by
  rcases hb with ⟨i, x, hx, hxb⟩ | hb
  · obtain ⟨j, _, h2⟩ := selB_get hs' hx
    exact (h.out j x b h2 hxb).1
  · exact .inr (Nat.le_trans h.frm.size hb)
theorem heap_put {F : Frm} {M M' : Mm} {hp hs hs2 : List Blk} {w w' : World} {sel : List Nat} (h : HeapOk F M hp w) (hsl : selB hp sel = some hs) (hl : sel.length ≤ hs2.length) (h2 : HeapOk (subF M hs w h.glob (sub_gx h hsl)) M' hs2 w') : HeapOk F M' (putB hp sel hs2) w' := by
  have hM : Ext (subF M hs w h.glob (sub_gx h hsl)).may M M' := h2.ext
  have hX : ∀ b, (subF M hs w h.glob (sub_gx h hsl)).X b → ∃ (j : Nat) (x : Blk), j ∈ sel ∧ hp[j]? = some x ∧ x.blk = some b := by
    rintro b ⟨i, x, hx, hb⟩
    obtain ⟨j, h3, h4⟩ := selB_get hsl hx
    exact ⟨j, x, List.mem_of_getElem? h3, h4, hb⟩
  have hold : ∀ (j : Nat) (x : Blk) (b : Nat), hp[j]? = some x → j ∉ sel → x.blk = some b → b < w.heap.size ∧ ¬ (subF M hs w h.glob (sub_gx h hsl)).X b := by
    intro j x b hx hj hb
    refine ⟨(h.at_ j x hx).lt hb, fun hXb => ?_⟩
    obtain ⟨k, y, hk, hy, hyb⟩ := hX b hXb
    have := h.sep j k x y b hx hy hb hyb
    subst this
    exact hj hk
  refine ⟨h2.mem, h.ext.trans (hM.to (sub_may h hsl)), ⟨h2.frm.os.trans h.frm.os, h2.frm.tape.trans h.frm.tape, h2.frm.output.trans h.frm.output, Nat.le_trans h.frm.size h2.frm.size, fun b hb hnX => ?_⟩, fun j x hx => ?_, fun j k x y b hx hy hxb hyb => ?_, fun j x b hx hxb => ?_⟩
  · refine (h2.frm.block b (Nat.lt_of_lt_of_le hb h.frm.size) fun hXb => ?_).trans (h.frm.block b hb hnX)
    obtain ⟨k, y, _, hy, hyb⟩ := hX b hXb
    rcases (h.out k y b hy hyb).1 with h3 | h3
    · exact hnX h3
    · omega
  · rcases putB_get hl hx with ⟨i, _, hi⟩ | ⟨hj, hns⟩
    · exact h2.at_ i x hi
    · exact (h.at_ j x hj).keep hM.sub fun b hb hlt => h2.frm.block b hlt (hold j x b hj hns hb).2
  · rcases putB_get hl hx with ⟨i, hji, hi⟩ | ⟨hj, hns⟩
    · rcases putB_get hl hy with ⟨i', hji', hi'⟩ | ⟨hk, hns'⟩
      · rw [hji, hji', h2.sep i i' x y b hi hi' hxb hyb]
      · obtain ⟨h3, h4⟩ := hold k y b hk hns' hyb
        rcases (h2.out i x b hi hxb).1 with h5 | h5
        · exact absurd h5 h4
        · have : w.heap.size ≤ b := h5
          omega
    · rcases putB_get hl hy with ⟨i', hji', hi'⟩ | ⟨hk, hns'⟩
      · obtain ⟨h3, h4⟩ := hold j x b hj hns hxb
        rcases (h2.out i' y b hi' hyb).1 with h5 | h5
        · exact absurd h5 h4
        · have : w.heap.size ≤ b := h5
          omega
      · exact h.sep j k x y b hj hk hxb hyb
  · rcases putB_get hl hx with ⟨i, hji, hi⟩ | ⟨hj, hns⟩
    · obtain ⟨h3, h4⟩ := h2.out i x b hi hxb
      refine ⟨?_, h4⟩
      rcases h3 with h5 | h5
      · obtain ⟨k, y, _, hy, hyb⟩ := hX b h5
        exact (h.out k y b hy hyb).1
      · exact .inr (Nat.le_trans h.frm.size h5)
    · obtain ⟨h3, h4⟩ := h.out j x b hj hxb
      refine ⟨h3, fun p hp' => ?_⟩
      have hlt := hold j x b hj hns hxb
      cases hc : M' p with
      | none => rfl
      | some v =>
        rcases hM.2 p v hc with h5 | h5
        · rw [h4 p hp'] at h5; cases h5
        · rcases h5 with h6 | h6
          · exact absurd (hp' ▸ h6) hlt.2
          · have h7 : w.heap.size ≤ p.block := h6
            omega
def Re (a b : AV) : Prop := ∀ M u, RA M a u → RA M b u
def Res (asq bs : List AV) : Prop := ∀ M us, RAs M asq us → RAs M bs us
theorem re_refl {a : AV} : Re a a := fun _ _ h => h
theorem re_own {i j : Nat} {v : Value} : Re (.own i v) (.own j v) := fun M u h => by simp only [RA] at h ⊢; exact h
theorem re_ptr {i j b off : Nat} : Re (.ptr i b off) (.ptr j b off) := fun M u h => by simp only [RA] at h ⊢; exact h
theorem re_cls {a : AV} {t : T} (hz : Rzs [] [a] [t]) : Re a (.c t) := fun M u h => by
  have h1 : RAs M [a] [u] := by simp only [RAs]; exact ⟨u, [], rfl, h, rfl⟩
  have h2 := cls_sound _ _ _ hz h1
  simp only [RTs] at h2
  obtain ⟨x, r, e, h3, _⟩ := h2
  injection e with e _
  subst e
  simpa only [RA] using h3
theorem res_nil : Res [] [] := fun _ _ h => h
theorem res_cons {a b : AV} {asq bs : List AV} (h : Re a b) (h' : Res asq bs) : Res (a :: asq) (b :: bs) := fun M us hu => by
  simp only [RAs] at hu ⊢
  obtain ⟨x, r, e, h1, h2⟩ := hu
  exact ⟨x, r, e, h M x h1, h' M r h2⟩
section
variable {P : Program} {F : Frm} {d : Option Tmp} {ty : TypeId} {pos : String} {aft : Array Edge} {g : Option (Nat × Bool)} {ρ : Operand → AV} {hp : List Blk} {K : AV → List Blk → Prop}
theorem lo_callG {f : FuncId} {y : Operand} {xs : List Operand} {ats : Array TypeId} {asq cap : List AV} {hs : List Blk} {R : AV → List Blk → Prop} (sel : List Nat) (hc : AG P f asq hs R) (hy : ∀ M u, RA M (ρ y) u → ∃ cs : List Value, u = .func (.func f) #[] cs.toArray ∧ RAs M cap cs) (hx : Res (xs.map ρ ++ cap) asq) (hsl : selB hp sel = some hs) (hf : freshB sel = true)
    (h : ∀ r hs2, R r hs2 → ∃ r', Re r r' ∧ sel.length ≤ hs2.length ∧ K r' (putB hp sel hs2)) : LO P F ⟨d, .call { callee := .value y, args := xs.toArray, argTypes := ats }, ty, pos, aft, g⟩ ρ hp K := by
  refine ⟨fun M e w he hh => ?_⟩
  obtain ⟨hE, hcall⟩ := hc
  have h1 := he y (by simp [Op.operands, Call.operands])
  obtain ⟨cs, hu, hcs⟩ := hy M _ h1
  rw [run_call hE hu]
  have hav := (ev_all xs (fun x hx => he x (by simp [Op.operands, Call.operands, hx]))).app hcs
  refine (hcall (subF M hs w hh.glob (sub_gx hh hsl)) M w _ (heap_sel hh hsl hf) (hx M _ hav)).mono ?_
  rintro e' w' ⟨v, r, hs2, M', rfl, hR, hM, hh2, hr⟩
  obtain ⟨r', hre, hl, hK⟩ := h r hs2 hR
  exact ⟨v, rfl, M', r', _, hK, hM.to (sub_may hh hsl), heap_put hh hsl hl hh2, hre M' v hr⟩
end
end Go.Proofs.Ytgjfiedepfjdcaa
namespace Go.Proofs.Ytgjfiedepfjdcaa
open Go.RowKit Go.Lib
def bytT (b : UInt8) : T := .lit (.int .u8 (b.toNat : Int))
def byts (l : List UInt8) : List T := l.map bytT
theorem byts_app (l r : List UInt8) : byts (l ++ r) = byts l ++ byts r := by simp [byts]
theorem rt_byts {M : Mm} : ∀ l : List UInt8, RTs M (byts l) (bvs l)
  | [] => by simp [byts, bvs, RTs]
  | b :: l => by
    simp only [byts, bvs, List.map_cons, RTs]
    exact ⟨_, _, rfl, by simp only [bytT, RT, bv], rt_byts l⟩
theorem byts_of {M : Mm} : ∀ {l : List UInt8} {xs : List Value}, RTs M (byts l) xs → xs = bvs l
  | [], _, h => by simpa [byts, RTs, bvs] using h
  | b :: l, _, h => by
    simp only [byts, List.map_cons, RTs] at h
    obtain ⟨x, r, rfl, h1, h2⟩ := h
    simp only [bytT, RT] at h1
    rw [h1, byts_of (l := l) h2]
    rfl
theorem strCells_eq (s : ByteArray) : strCells s = bvs s.data.toList := by
  simp [strCells, bvs, bv]
section
variable {P : Program} {F : Frm} {L : Tab} {d : Option Tmp} {ty : TypeId} {pos : String} {aft : Array Edge} {g : Option (Nat × Bool)} {ρ : Operand → AV} {hp : List Blk} {K : AV → List Blk → Prop}
variable {t t' u e : TypeId} {x y : Operand} {k k' : IntKind} {a b : Int}
theorem lo_app_str {ti tu te : TI} {i n : Nat} {v : Value} {cs : List T} {s : ByteArray} (hL : TabOk P L) (hx : ρ x = .own i v) (hi : hp[i]? = some (.row v e 1 n cs)) (hy : ρ y = .c (.lit (.string s))) (ht : L.look t = some ti) (hd : ti.d = .slice e) (hu : L.look u = some tu) (hud : tu.d = .string) (hte : L.look e = some te) (hsz : te.size = 1) (hby : te.bytes = 1) (hz : te.zero = [.int .u8 0]) (hag : te.agg = false)
    (h63 : n + s.size ≤ 140737488355328) (h : ∀ v', K (.own i v') (hp.set i (.row v' e 1 (n + s.size) (cs ++ byts s.data.toList)))) : LO P F ⟨d, .call { callee := .builtin .append, args := #[x, y], argTypes := #[t, u] }, ty, pos, aft, g⟩ ρ hp K := by
  refine ⟨fun M ev w hev hh => ?_⟩
  have h1 := hev x (by first | (simp [Op.operands]; done) | simp [Op.operands, Call.operands])
  rw [hx] at h1
  simp only [RA] at h1
  have h2 := hev y (by first | (simp [Op.operands]; done) | simp [Op.operands, Call.operands])
  rw [hy] at h2
  simp only [RA, RT] at h2
  obtain ⟨xs, ho, hxs, hone, hsz0⟩ := hh.at_ i _ hi
  obtain ⟨inf, zv, i1, i2, i3, i4, i5, i6, i7⟩ := hL.info hte
  have hzv : zv = .int .u8 0 := by
    rw [hag] at i7
    rw [hz] at i5
    cases zv <;> simp_all [Value.cells]
  have hml : n + s.size ≤ maxLen := by unfold maxLen; omega
  obtain ⟨v', w', g1, g2, g5, hwhere⟩ := run_append_o (P := P) w t u ty e inf zv 1 1 (hL.slice ht hd) i1 i4 (by rw [i2, hsz]) (by rw [i3, hby]) (by rw [hzv]; rfl) (by omega) v n xs ho (.string s) s.size (byteCells s) (by rw [i2, hsz]; exact Src.ofString w (hL.string hu hud) s) hml (by omega)
  have hrun : (execOp ev ⟨d, .call { callee := .builtin .append, args := #[x, y], argTypes := #[t, u] }, ty, pos, aft, g⟩).run P w = .ok (.value v') w' := by
    simp [execOp, resolve, invoke, builtin, h1.1, h2, g1]
  rw [hrun]
  refine ⟨M, _, _, h v', Ext.refl _ _, ?_, by simp only [RA]; exact ⟨trivial, own_one g2⟩⟩
  refine hh.step i g5.os g5.tape g5.output g5.size (fun k hk hne => g5.block k hk (fun e => hne _ hi e.symm)) (Ext.refl _ _) (fun p v h1 h2 => by rw [h2] at h1; cases h1) (fun j hj => by rw [List.getElem?_set_ne (Ne.symm hj)]) (fun x' hx' => ?_)
  have hlt : i < hp.length := (List.getElem?_eq_some_iff.1 hi).1
  rw [List.getElem?_set_self hlt] at hx'
  obtain rfl : Blk.row v' e 1 (n + s.size) (cs ++ byts s.data.toList) = x' := by injection hx'
  rw [show byteCells s = bvs s.data.toList from strCells_eq s] at g2
  refine ⟨⟨_, g2, hxs.app (rt_byts _), hone.app (bvs_one _), by omega⟩, fun b hb => ?_⟩
  rcases hwhere with g6 | g6
  · exact .inl ⟨_, hi, by simpa [Blk.blk, g6] using hb⟩
  · obtain rfl : w.heap.size = b := by simpa [Blk.blk, g6] using hb
    exact .inr ⟨Nat.le_refl _, fun p hp => mem_fresh hh.mem (by omega)⟩
end
end Go.Proofs.Ytgjfiedepfjdcaa
namespace Go.Proofs.Ytgjfiedepfjdcaa
open Go.RowKit
section
variable {L : Tab} {σ : AS}
theorem outsA_nil : OutsA L σ [] [] := by simp only [OutsA]
theorem outsA_cons {r : ResultVar} {rs : List ResultVar} {v : AV} {vs : List AV} (h : OutA L σ r v) (h' : OutsA L σ rs vs) : OutsA L σ (r :: rs) (v :: vs) := by simp only [OutsA]; exact ⟨v, vs, rfl, h, h'⟩
theorem outA_tmp {i : Nat} {v : AV} (h : fc (σ.tmps i) = some v) : OutA L σ (.tmp i) v := by simp only [OutA]; exact fc_eq h
theorem outA_agg {a ty i b off : Nat} {tb : TypeId} {cs l : List AV} {ti : TI} (h1 : σ.tmps a = .ptr i b off) (h2 : σ.hp[i]? = some (.box b tb cs)) (h3 : L.look ty = some ti) (h4 : ti.agg = true) (h5 : Nat.ble (off + ti.size) cs.length = true) (h6 : evl ((cs.drop off).take ti.size) = some l) : OutA L σ (.cell a ty) (.agg l) := by
  simp only [OutA]
  refine ⟨i, b, off, tb, cs, ti, h1, h2, h3, ?_⟩
  rw [h4]
  exact ⟨Nat.le_of_ble_eq_true h5, by rw [evl_eq h6]⟩
theorem outA_one {a ty i b off : Nat} {tb : TypeId} {cs : List AV} {v : AV} {ti : TI} (h1 : σ.tmps a = .ptr i b off) (h2 : σ.hp[i]? = some (.box b tb cs)) (h3 : L.look ty = some ti) (h4 : ti.agg = false) (h5 : cs[off]? = some v) : OutA L σ (.cell a ty) v := by
  simp only [OutA]
  refine ⟨i, b, off, tb, cs, ti, h1, h2, h3, ?_⟩
  rw [h4]
  exact h5
theorem zG {res : List ResultVar} {k : Nat} {R : AV → List Blk → Prop} {e : Exit} {vs : List AV} {hq : List Blk} (h : R (outA vs) hq) (he : e = .normal ∨ e = .ret := by first | exact .inl rfl | exact .inr rfl)
    (ho : OutsA L σ res vs := by repeat (first | exact outsA_nil | apply outsA_cons | (apply outA_tmp; (focus exact rfl)) | (apply outA_agg; (focus exact rfl); (focus exact rfl); (focus exact rfl); (focus exact rfl); (focus exact rfl); (focus exact rfl)) | (apply outA_one; (focus exact rfl); (focus exact rfl); (focus exact rfl); (focus exact rfl); (focus exact rfl))))
    (hh : evl (σ.hp.take k) = some hq := by exact rfl) : FinG L res k R e σ := ⟨he, vs, ho, by rw [← evl_eq hh]; exact h⟩
end
section
variable {P : Program} {F : Frm} {L : Tab} {d : Option Tmp} {ty : TypeId} {pos : String} {aft : Array Edge} {g : Option (Nat × Bool)} {ρ : Operand → AV} {hp : List Blk} {K : AV → List Blk → Prop}
theorem zCallG {f : FuncId} {y : Operand} {xs : List Operand} {ats : Array TypeId} {asq cap : List AV} {hs : List Blk} {R : AV → List Blk → Prop} (sel : List Nat) (hc : AG P f asq hs R)
    (h : ∀ r hs2, R r hs2 → ∃ r' hp', Re r r' ∧ Nat.ble sel.length hs2.length = true ∧ evl (putB hp sel hs2) = some hp' ∧ K r' hp') (hy : ρ y = .fn (.func f) cap := by exact rfl)
    (hx : Res (xs.map ρ ++ cap) asq := by repeat (first | exact res_nil | apply res_cons | exact re_own | exact re_ptr | exact re_refl | apply re_cls | exact rzs_nil | apply rzs_cons | exact rz_c | exact rz_nil rfl | apply rz_agg | apply rz_fn | apply rz_tup)) (hsl : selB hp sel = some hs := by exact rfl) (hf : freshB sel = true := by exact rfl) :
    LO P F ⟨d, .call { callee := .value y, args := xs.toArray, argTypes := ats }, ty, pos, aft, g⟩ ρ hp K :=
  lo_callG sel hc (fun M u hu => by rw [hy] at hu; simpa only [RA] using hu) hx hsl hf fun r hs2 hR => by
    obtain ⟨r', hp', h1, h2, h3, h4⟩ := h r hs2 hR
    exact ⟨r', h1, Nat.le_of_ble_eq_true h2, by rw [← evl_eq h3]; exact h4⟩
variable {t u e : TypeId} {x y : Operand} {ti tu te : TI} {cs : List T} {n i : Nat} {v : Value} {e' : TypeId}
theorem zAps {s : ByteArray} {hp' : Value → List Blk} (h63 : n + s.size ≤ 140737488355328) (h : ∀ v', K (.own i v') (hp' v')) (hL : TabOk P L := by exact tok) (hx : ρ x = .own i v := by exact rfl) (hi : hp[i]? = some (.row v e 1 n cs) := by exact rfl) (hy : ρ y = .c (.lit (.string s)) := by exact rfl) (ht : L.look t = some ti := by exact rfl) (hd : ti.d = .slice e := by exact rfl) (hu : L.look u = some tu := by exact rfl) (hud : tu.d = .string := by exact rfl) (hte : L.look e = some te := by exact rfl) (hsz : te.size = 1 := by exact rfl) (hby : te.bytes = 1 := by exact rfl) (hz : te.zero = [.int .u8 0] := by exact rfl) (hag : te.agg = false := by exact rfl)
    (hf : ∀ v', evl (hp.set i (.row v' e 1 (n + s.size) (cs ++ byts s.data.toList))) = some (hp' v') := by exact fun _ => rfl) : LO P F ⟨d, .call { callee := .builtin .append, args := #[x, y], argTypes := #[t, u] }, ty, pos, aft, g⟩ ρ hp K :=
  lo_app_str hL hx hi hy ht hd hu hud hte hsz hby hz hag h63 fun v' => by rw [← evl_eq (hf v')]; exact h v'
end
end Go.Proofs.Ytgjfiedepfjdcaa
namespace Go.Proofs.Ytgjfiedepfjdcaa
open Go.RowKit
def bs (l : List UInt8) : ByteArray := ⟨l.toArray⟩
section
variable {P : Program} {F : Frm} {L : Tab} {d : Option Tmp} {ty : TypeId} {pos : String} {aft : Array Edge} {g : Option (Nat × Bool)} {ρ : Operand → AV} {hp : List Blk} {K : AV → List Blk → Prop}
theorem zBo {t el : TypeId} {ti te : TI} {n k : Nat} {parts : List (Nat × Operand)} {cs cs' : List AV} {ts : List T} {hp' : Value → List Blk} (h : ∀ v, K (.own k v) (hp' v)) (hL : TabOk P L := by exact tok) (ht : L.look t = some ti := by exact rfl) (hd : ti.d = .slice el := by exact rfl) (hte : L.look el = some te := by exact rfl) (h0 : Nat.ble 1 te.size = true := by exact rfl) (hn : Nat.ble (n * te.size) 16777216 = true := by exact rfl)
    (hf : fillA (fun i => some (i * te.size, te.size)) ((List.range (n * te.size)).map fun j => .c (.lit (te.zero.getD (j % te.size) undef))) (parts.map fun p => (p.1, ρ p.2)) = some cs := by exact rfl) (he : evl cs = some cs' := by exact rfl) (hz : Rzs [] cs' ts := by repeat (first | exact rzs_nil | apply rzs_cons | exact rz_c | exact rz_nil rfl | apply rz_agg | exact rz_own rfl | apply rz_fn | exact rz_ptr rfl | apply rz_tup)) (hk : lenU hp = some k := by exact rfl) (hq : ∀ v, evl (hp ++ [.row v el te.size n ts]) = some (hp' v) := by exact fun _ => rfl) :
    LO P F ⟨d, .buildSlice t n parts.toArray, ty, pos, aft, g⟩ ρ hp K := v_bslice_own hL ht hd hte h0 hn hf he hz hk hq h
end
end Go.Proofs.Ytgjfiedepfjdcaa
namespace Go.Proofs.Ytgjfiedepfjdcaa
open Go.RowKit
inductive Pl where
  | fin (r : List Nat)
  | fork (p : List Nat) (i : Nat) (a : Pl) (j : Nat) (b : Pl)
def Pl.n : Pl → Nat
  | .fin r => r.length
  | .fork p _ a _ _ => a.n + 1 + p.length
end Go.Proofs.Ytgjfiedepfjdcaa
namespace Go.Proofs.Ytgjfiedepfjdcaa
open Go.RowKit
section
variable {P : Program} {F : Frm} {L : Tab} {d : Option Tmp} {ty : TypeId} {pos : String} {aft : Array Edge} {g : Option (Nat × Bool)} {ρ : Operand → AV} {hp : List Blk} {K : AV → List Blk → Prop}
theorem own_turn {M : Mm} {w : World} (hh : HeapOk F M hp w) {i n n' sz : Nat} {v v' : Value} {e : TypeId} {cs cs' : List T} (hi : hp[i]? = some (.row v e sz n cs)) (hb : ∀ b, v'.ownBlock = some b → v.ownBlock = some b) (hx : BlkOk M w (.row v' e sz n' cs')) : HeapOk F M (hp.set i (.row v' e sz n' cs')) w := by
  refine hh.step i rfl rfl rfl (Nat.le_refl _) (fun _ _ _ => rfl) (Ext.refl _ _) (fun p v h1 h2 => by rw [h2] at h1; cases h1) (fun j hj => by rw [List.getElem?_set_ne (Ne.symm hj)]) (fun x' hx' => ?_)
  have hlt : i < hp.length := (List.getElem?_eq_some_iff.1 hi).1
  rw [List.getElem?_set_self hlt] at hx'
  obtain rfl : Blk.row v' e sz n' cs' = x' := by injection hx'
  exact ⟨hx, fun b hb' => .inl ⟨_, hi, hb b hb'⟩⟩
theorem lo_own_hi (hL : TabOk P L) {t el : TypeId} {ti te : TI} {x y : Operand} {i n sz : Nat} {v : Value} {e : TypeId} {cs : List T} {k : IntKind} {z : Int} (l : Nat) (hl : l ≤ n) (hx : ρ x = .own i v) (hi : hp[i]? = some (.row v e sz n cs)) (hy : ρ y = .c (.lit (.int k z))) (hz : z = (l : Int)) (ht : L.look t = some ti) (hd : ti.d = .slice el) (hte : L.look el = some te) (hsz : te.size = sz)
    (h : ∀ v', K (.own i v') (hp.set i (.row v' e sz l (cs.take (l * sz))))) : LO P F ⟨d, .slice t x none (some y) none, ty, pos, aft, g⟩ ρ hp K := by
  refine ⟨fun M ev w he hh => ?_⟩
  have h1 := he x (by simp [Op.operands])
  rw [hx] at h1
  simp only [RA] at h1
  have h2 := he y (by simp [Op.operands])
  rw [hy] at h2
  simp only [RA, RT] at h2
  obtain ⟨xs, ho, hxs, hone, h0⟩ := hh.at_ i _ hi
  obtain ⟨A, c, rfl, hnc, hcm⟩ := ownO_shape ho
  subst hz
  have hb := run_sliceBound (P := P) (w := w) k (l : Int) c .sliceAcap (by omega) (by omega)
  have hr : (execOp ev ⟨d, .slice t x none (some y) none, ty, pos, aft, g⟩).run P w = .ok (.value (.slice A l c)) w := by
    have hz : (if c = 0 then A else A.map (·.add 0)) = A := by
      cases A with
      | none => split <;> rfl
      | some ad => split <;> simp [add_zero']
    simp [execOp, Instr.sliceAt, Instr.slice, Instr.sliceBounds, h1.1, h2, run_underlying (hL.slice ht hd), hL.sizeOf hte, hb, hsz]
    first | done | exact hz | simpa using hz
  rw [hr]
  have hd := ho.take hl
  exact ⟨M, _, _, h (.slice A l c), Ext.refl _ _, own_turn hh hi (fun b hb => by cases A <;> exact hb) ⟨_, hd, hxs.take _, fun x hx => hone x (List.mem_of_mem_take hx), h0⟩, by simp only [RA]; exact ⟨trivial, own_oneO hd⟩⟩
theorem zQh {t el : TypeId} {ti te : TI} {x y : Operand} {i n sz : Nat} {v : Value} {e : TypeId} {cs : List T} {k : IntKind} {z : Int} {hp' : Value → List Blk} (l : Nat) (hl : l ≤ n) (h : ∀ v', K (.own i v') (hp' v')) (hz : z = (l : Int) := by exact rfl) (hL : TabOk P L := by exact tok) (hx : ρ x = .own i v := by exact rfl) (hi : hp[i]? = some (.row v e sz n cs) := by exact rfl) (hy : ρ y = .c (.lit (.int k z)) := by exact rfl) (ht : L.look t = some ti := by exact rfl) (hd : ti.d = .slice el := by exact rfl) (hte : L.look el = some te := by exact rfl) (hsz : te.size = sz := by exact rfl)
    (hf : ∀ v', evl (hp.set i (.row v' e sz l (cs.take (l * sz)))) = some (hp' v') := by exact fun _ => rfl) : LO P F ⟨d, .slice t x none (some y) none, ty, pos, aft, g⟩ ρ hp K :=
  lo_own_hi hL l hl hx hi hy hz ht hd hte hsz fun v' => by rw [← evl_eq (hf v')]; exact h v'
end
end Go.Proofs.Ytgjfiedepfjdcaa
namespace Go.Proofs.Ytgjfiedepfjdcaa
open Go.RowKit
section
variable {P : Program} {F : Frm} {Q : Exit → AS → Prop} {τ : Nat → AV} {hp : List Blk} {N : Nat}
/-- what a slot holds, said otherwise -/
theorem wk_as (s : Nat) (v : AV) (h : ∀ M u, RA M (τ s) u → RA M v u) : Wk F ⟨τ, hp, N⟩ ⟨upd N s v τ, hp, N⟩ := by
  intro M a w hr
  refine ⟨M, fun i => ?_, hr.size, hr.defers, hr.heap⟩
  have := hr.tmps i
  simp only [upd] at this ⊢
  cases hc : Nat.beq i s with
  | false => simp only [Bool.false_and, cond_false]; exact this
  | true =>
    obtain rfl := Nat.eq_of_beq_eq_true hc
    cases hN : Nat.blt i N with
    | false => simp only [Bool.and_false, cond_false]; exact this
    | true => simp only [Bool.and_true, cond_true]; exact h M _ this
theorem x_as {c : Go.Code} (s : Nat) (v : AV) (h : ∀ M u, RA M (τ s) u → RA M v u) (hq : AC P F c Q ⟨upd N s v τ, hp, N⟩) : AC P F c Q ⟨τ, hp, N⟩ := ac_wk (wk_as s v h) hq
end
theorem drop_flat {α β : Type} {f : α → List β} {sz : Nat} (hf : ∀ a, (f a).length = sz) : ∀ (m : Nat) (l : List α), (l.flatMap f).drop (m * sz) = (l.drop m).flatMap f
  | 0, l => by simp
  | m + 1, [] => by simp
  | m + 1, a :: l => by
    rw [List.flatMap_cons, List.drop_succ_cons, ← drop_flat hf m l, show (m + 1) * sz = (f a).length + m * sz by rw [hf a, Nat.succ_mul]; omega, List.drop_length_add_append]
theorem take_flat {α β : Type} {f : α → List β} {sz : Nat} (hf : ∀ a, (f a).length = sz) : ∀ (m : Nat) (l : List α), (l.flatMap f).take (m * sz) = (l.take m).flatMap f
  | 0, l => by simp
  | m + 1, [] => by simp
  | m + 1, a :: l => by
    rw [List.flatMap_cons, List.take_succ_cons, List.flatMap_cons, ← take_flat hf m l, show (m + 1) * sz = (f a).length + m * sz by rw [hf a, Nat.succ_mul]; omega, List.take_length_add_append]
theorem len_flat {α β : Type} {f : α → List β} {sz : Nat} (hf : ∀ a, (f a).length = sz) (l : List α) : (l.flatMap f).length = l.length * sz := by
  induction l with
  | nil => simp
  | cons a l ih => rw [List.flatMap_cons, List.length_append, ih, hf a, List.length_cons, Nat.succ_mul]; omega
section
variable {P : Program} {L : Tab} {F : Frm} {d : Option Tmp} {ty : TypeId} {pos : String} {aft : Array Edge} {g : Option (Nat × Bool)} {ρ : Operand → AV} {hp : List Blk} {K : AV → List Blk → Prop}
theorem zPlf {α : Type} {f : α → List T} {l : List α} {t el : TypeId} {ti te : TI} {x y : Operand} {sz : Nat} {k : IntKind} {z : Int} (m : Nat) (hm : m ≤ l.length) (hf : ∀ a, (f a).length = sz) (hK : K (.c (.row (l.drop m).length sz ((l.drop m).flatMap f))) hp) (hz : z = (m : Int) := by exact rfl) (hL : TabOk P L := by exact tok) (hx : ρ x = .c (.row l.length sz (l.flatMap f)) := by exact rfl) (hy : ρ y = .c (.lit (.int k z)) := by exact rfl) (ht : L.look t = some ti := by exact rfl) (hd : ti.d = .slice el := by exact rfl) (hte : L.look el = some te := by exact rfl) (hsz : te.size = sz := by exact rfl) :
    LO P F ⟨d, .slice t x (some y) none none, ty, pos, aft, g⟩ ρ hp K := by
  refine lo_part_lo hL m hm hx hy hz ht hd hte hsz ?_
  rw [drop_flat hf m l, List.take_of_length_le (by rw [len_flat hf, List.length_drop]; exact Nat.le_refl _), ← List.length_drop]
  exact hK
theorem zPhf {α : Type} {f : α → List T} {l : List α} {t el : TypeId} {ti te : TI} {x y : Operand} {sz : Nat} {k : IntKind} {z : Int} (m : Nat) (hm : m ≤ l.length) (hf : ∀ a, (f a).length = sz) (hK : K (.c (.row (l.take m).length sz ((l.take m).flatMap f))) hp) (hz : z = (m : Int) := by exact rfl) (hL : TabOk P L := by exact tok) (hx : ρ x = .c (.row l.length sz (l.flatMap f)) := by exact rfl) (hy : ρ y = .c (.lit (.int k z)) := by exact rfl) (ht : L.look t = some ti := by exact rfl) (hd : ti.d = .slice el := by exact rfl) (hte : L.look el = some te := by exact rfl) (hsz : te.size = sz := by exact rfl) :
    LO P F ⟨d, .slice t x none (some y) none, ty, pos, aft, g⟩ ρ hp K := by
  refine lo_part_hi hL m hm hx hy hz ht hd hte hsz ?_
  rw [take_flat hf m l]
  have h : (l.take m).length = m := by rw [List.length_take]; omega
  rw [h] at hK
  exact hK
end
end Go.Proofs.Ytgjfiedepfjdcaa
namespace Go.Proofs.Ytgjfiedepfjdcaa
open Go.RowKit
section
variable {md : Region.Mode} {ops : Array Oper} {cls : Nat → Nat}
/-- m says, bit by bit, for whom each operation waits -/
def claimB (md : Region.Mode) (ops : Array Oper) (m : List Nat) : Bool :=
  (List.range ops.size).all fun j => (List.range ops.size).all fun i => !(m.getD j 0).testBit i ||
    (match ops[j]? with
      | some oj => oj.after.any fun e => Region.binds md e && (e.on == i || (Nat.blt e.on j && (m.getD e.on 0).testBit i))
      | none => false)
theorem claim_reach {m : List Nat} (h : claimB md ops m = true) {i : Nat} (hi : i < ops.size) : ∀ (f j : Nat), j < f → j < ops.size → (m.getD j 0).testBit i = true → reachB md ops f j i = true
  | 0, _, h0, _, _ => by omega
  | f + 1, j, hf, hj, hb => by
    have h1 := List.all_eq_true.1 (List.all_eq_true.1 h j (List.mem_range.2 hj)) i (List.mem_range.2 hi)
    rw [hb] at h1
    simp only [Bool.not_true, Bool.false_or] at h1
    unfold reachB
    split at h1
    · rename_i oj hoj
      rw [hoj]
      obtain ⟨e, he, hq⟩ := Array.any_eq_true'.1 h1
      refine Array.any_eq_true'.2 ⟨e, he, ?_⟩
      simp only [Bool.and_eq_true, Bool.or_eq_true, beq_iff_eq] at hq ⊢
      refine ⟨hq.1, hq.2.imp id fun h2 => ?_⟩
      have hlt : e.on < j := by simpa using h2.1
      exact claim_reach h hi f e.on (by omega) (by omega) h2.2
    · cases h1
def freeC (ops : Array Oper) (cls : Nat → Nat) (m : List Nat) (listed : Array Bool) (i : Nat) : Bool :=
  match ops[i]? with
  | none => false
  | some oi => (List.range ops.size).all fun j => j == i || listed.getD j true || (m.getD j 0).testBit i ||
      (match ops[j]? with | some oj => oi.apart ops oj && (cls j != 2 || cls i == 0) | none => true)
theorem freeC_A {m : List Nat} (h : claimB md ops m = true) {listed : Array Bool} {i : Nat} (hf : freeC ops cls m listed i = true) : freeA md ops cls listed i = true := by
  unfold freeC at hf
  unfold freeA
  split at hf
  · cases hf
  · rename_i oi hoi
    rw [hoi]
    refine List.all_eq_true.2 fun j hj => ?_
    have h1 := List.all_eq_true.1 hf j hj
    simp only [Bool.or_eq_true] at h1 ⊢
    rcases h1 with ((h1 | h1) | h1) | h1
    · exact .inl (.inl (.inl h1))
    · exact .inl (.inl (.inr h1))
    · exact .inl (.inr (claim_reach h (Array.getElem?_eq_some_iff.1 hoi).1 _ j (List.mem_range.1 hj) (List.mem_range.1 hj) h1))
    · exact .inr h1
def ordC (md : Region.Mode) (ops : Array Oper) (cls : Nat → Nat) (m : List Nat) : List Nat → Array Bool → Bool
  | [], listed => (Region.ready md ops listed).isEmpty
  | i :: r, listed => (if 2 ≤ cls i then decide (Region.ready md ops listed = [i]) else (Region.ready md ops listed).contains i && freeC ops cls m listed i) && ordC md ops cls m r (listed.setIfInBounds i true)
theorem ordC_B {m : List Nat} (h : claimB md ops m = true) : ∀ (r : List Nat) (listed : Array Bool), ordC md ops cls m r listed = true → ordB md ops cls r listed = true
  | [], listed, ho => ho
  | i :: r, listed, ho => by
    simp only [ordC, ordB, Bool.and_eq_true] at ho ⊢
    refine ⟨?_, ordC_B h r _ ho.2⟩
    by_cases h2 : 2 ≤ cls i
    · rw [if_pos h2] at ho ⊢; exact ho.1
    · rw [if_neg h2] at ho ⊢
      have h3 := ho.1
      simp only [Bool.and_eq_true] at h3 ⊢
      exact ⟨h3.1, freeC_A h h3.2⟩
end
section
variable {P : Program} {F : Frm} {τ : Nat → AV} {hp : List Blk} {N : Nat} {Q : Exit → AS → Prop} {id : Nat} {l : List Oper}
theorem ac_drawB (m c r : List Nat) (hm : P.follows .mixedOrders = true) (hB : (claimB .any l.toArray m && (ordC .any l.toArray (clsOf c) m r (Array.replicate l.toArray.size false) && Nat.beq r.length l.length)) = true)
    (h : WO P F l.toArray N (clsOf c) (fun τ' hp' => Q .normal ⟨τ', hp', N⟩) r τ hp) : AC P F (.region id l.toArray true) Q ⟨τ, hp, N⟩ := by
  simp only [Bool.and_eq_true] at hB
  refine ac_draw c r hm ?_ h
  simp only [Bool.and_eq_true]
  exact ⟨ordC_B hB.1 _ _ hB.2.1, hB.2.2⟩
end
end Go.Proofs.Ytgjfiedepfjdcaa
namespace Go.Proofs.Ytgjfiedepfjdcaa
open Go.RowKit
theorem lits_rt (M : Mm) : ∀ l : List Value, RTs M (l.map T.lit) l
  | [] => by simp only [List.map_nil, RTs]
  | v :: l => by simp only [List.map_cons, RTs]; exact ⟨v, l, rfl, by simp only [RT], lits_rt M l⟩
end Go.Proofs.Ytgjfiedepfjdcaa
namespace Go.Proofs.Ytgjfiedepfjdcaa
open Go.RowKit
section
variable {P : Program} {F : Frm} {L : Tab} {d : Option Tmp} {ty : TypeId} {pos : String} {aft : Array Edge} {g : Option (Nat × Bool)} {ρ : Operand → AV} {hp : List Blk} {K : AV → List Blk → Prop}
theorem set_same {α : Type} {l : List α} {i : Nat} {a : α} (h : l[i]? = some a) : l.set i a = l := by
  apply List.ext_getElem?
  intro j
  rw [List.getElem?_set]
  by_cases hij : i = j
  · subst hij
    rw [if_pos rfl, if_pos (List.getElem?_eq_some_iff.1 h).1, h]
  · rw [if_neg hij]
end
end Go.Proofs.Ytgjfiedepfjdcaa
namespace Go.Proofs.Ytgjfiedepfjdcaa
open Go.RowKit
theorem lits_rts (M : Mm) (l : List Value) : RTs M (l.map fun v => T.lit v) l := lits_rt M l
end Go.Proofs.Ytgjfiedepfjdcaa
namespace Go.Proofs.Ytgjfiedepfjdcaa
open Go.RowKit
theorem TabOk.array {P : Program} {L : Tab} (hL : TabOk P L) {t e : TypeId} {n : Nat} {i : TI} (h : L.look t = some i) (hd : i.d = .array n e) : P.underlying t = some (.array n e) := by
  obtain ⟨d, h1, h2⟩ := hL.desc h
  rw [hd] at h2
  cases d <;> simp [descB] at h2
  rw [h1, h2.1, h2.2]
end Go.Proofs.Ytgjfiedepfjdcaa
namespace Go.Proofs.Ytgjfiedepfjdcaa
open Go.RowKit
inductive Pt where
  | fin (r : List Nat)
  | fork (p : List Nat) (i : Nat) (a : Pt) (j : Nat) (b : Pt)
  | fork3 (p : List Nat) (i : Nat) (a : Pt) (j : Nat) (b : Pt) (k : Nat) (c : Pt)
  | fork4 (p : List Nat) (i : Nat) (a : Pt) (j : Nat) (b : Pt) (k : Nat) (c : Pt) (m : Nat) (d : Pt)
def Pt.n : Pt → Nat
  | .fin r => r.length
  | .fork p _ a _ _ => a.n + 1 + p.length
  | .fork3 p _ a _ _ _ _ => a.n + 1 + p.length
  | .fork4 p _ a _ _ _ _ _ _ => a.n + 1 + p.length
end Go.Proofs.Ytgjfiedepfjdcaa
namespace Go.Proofs.Ytgjfiedepfjdcaa
open Go.RowKit
theorem heap_pick {F : Frm} {M : Mm} {hp hs : List Blk} {w : World} {sel : List Nat} (h : HeapOk F M hp w) (hs' : selB hp sel = some hs) (hf : freshB sel = true) : HeapOk F M hs w := by
  refine ⟨h.mem, h.ext, h.frm, fun i x hx => ?_, fun i j x y b hx hy hxb hyb => ?_, fun i x b hx hxb => ?_⟩
  · obtain ⟨j, _, h2⟩ := selB_get hs' hx
    exact h.at_ j x h2
  · obtain ⟨k, h1, h2⟩ := selB_get hs' hx
    obtain ⟨k', h3, h4⟩ := selB_get hs' hy
    have := h.sep k k' x y b h2 h4 hxb hyb
    subst this
    exact freshB_inj hf h1 h3
  · obtain ⟨j, _, h2⟩ := selB_get hs' hx
    exact h.out j x b h2 hxb
section
variable {P : Program} {F : Frm} {τ : Nat → AV} {hp hs : List Blk} {N : Nat} {Q : Exit → AS → Prop}
theorem wk_pick (sel : List Nat) (hs' : selB hp sel = some hs) (hf : freshB sel = true) : Wk F ⟨τ, hp, N⟩ ⟨τ, hs, N⟩ := by
  intro M a w hr
  exact ⟨M, hr.tmps, hr.size, hr.defers, heap_pick hr.heap hs' hf⟩
theorem x_pick {c : Go.Code} (sel : List Nat) (hq : AC P F c Q ⟨τ, hs, N⟩) (hs' : selB hp sel = some hs := by exact rfl) (hf : freshB sel = true := by exact rfl) : AC P F c Q ⟨τ, hp, N⟩ := ac_wk (wk_pick sel hs' hf) hq
end
end Go.Proofs.Ytgjfiedepfjdcaa
namespace Go.Proofs.Ytgjfiedepfjdcaa
open Go.RowKit
section
variable {α β : Type}
def mapT (f : β → T) (l : List (α × β)) : List (α × T) := l.map fun p => (p.1, f p.2)
end
section
variable {α β : Type} [DecidableEq α]
def gget (k : α) : List (α × β) → Option β
  | [] => none
  | (k', b) :: l => if k = k' then some b else gget k l
def gput (k : α) (b : β) : List (α × β) → List (α × β)
  | [] => [(k, b)]
  | (k', b') :: l => if k = k' then (k, b) :: l else (k', b') :: gput k b l
theorem mget_T (f : β → T) (k : α) : ∀ l : List (α × β), mget k (mapT f l) = (gget k l).map f
  | [] => rfl
  | (k', b) :: l => by
    show (if k = k' then some (f b) else mget k (mapT f l)) = _
    rw [mget_T f k l, gget]
    split <;> rfl
theorem mput_T (f : β → T) (k : α) (b : β) : ∀ l : List (α × β), mput k (f b) (mapT f l) = mapT f (gput k b l)
  | [] => rfl
  | (k', b') :: l => by
    show (if k = k' then (k, f b) :: mapT f l else (k', f b') :: mput k (f b) (mapT f l)) = _
    rw [mput_T f k b l, gput]
    split <;> rfl
theorem gget_put (k k' : α) (b : β) : ∀ l : List (α × β), gget k (gput k' b l) = if k = k' then some b else gget k l
  | [] => by simp [gput, gget]
  | (k2, b2) :: l => by
    simp only [gput]
    by_cases h : k' = k2
    · subst h
      simp only [if_true, gget]
      split <;> rfl
    · simp only [if_neg h, gget, gget_put k k' b l]
      by_cases h2 : k = k2
      · subst h2
        simp [Ne.symm h]
      · simp [h2]
end
section
variable {P : Program} {F : Frm} {L : Tab} {d : Option Tmp} {ty : TypeId} {pos : String} {aft : Array Edge} {g : Option (Nat × Bool)} {ρ : Operand → AV} {hp : List Blk} {K : AV → List Blk → Prop} {α : Type} [DecidableEq α] {κ : α → Value} {dk : TypeDesc} {te : TI} {x y : Operand} {i b : Nat} {o : Option (List Nat × Nat)}
theorem lo_lookup_aggn (hκ : KeyIs dk κ) (hL : TabOk P L) {xT kT eT : TypeId} {l : List (α × T)} {k : α} (hu : P.underlying xT = some (.map kT eT)) (hk : P.underlying kT = some dk) (hte : L.look eT = some te) (ha : te.agg = true) (hx : ρ x = .own i (.map (some b))) (hi : hp[i]? = some (.mpx b (mkeys κ l) o)) (hy : ρ y = .c (.lit (κ k)))
    (h : K (.c ((mget k l).getD (.agg (te.zero.map fun v => T.lit v)))) hp) : LO P F ⟨d, .lookup xT x y false, ty, pos, aft, g⟩ ρ hp K := by
  refine LO.same (fun M e w he hh => ?_) h
  have h1 := he x (by first | (simp [Op.operands]; done) | simp [Op.operands, Call.operands])
  rw [hx] at h1
  simp only [RA] at h1
  have h2 := he y (by first | (simp [Op.operands]; done) | simp [Op.operands, Call.operands])
  rw [hy] at h2
  simp only [RA, RT] at h2
  obtain ⟨es, clock, hb, hkeys, hvals, -, -⟩ := hh.at_ i _ hi
  have hkeys' : es.map (·.key) = l.map (fun p => κ p.1) := by rw [hkeys]; simp [mkeys]
  have hvals' : RTs M (l.map (·.2)) (es.map (·.val)) := by simpa [mkeys, Function.comp_def] using hvals
  rcases find_keys hκ k l es 0 hkeys' with ⟨f1, f2, _⟩ | ⟨j, e', t, f1, f2, f3, f4, _⟩
  · obtain ⟨inf, zv, g1, _, _, g2, g3, g4, g5⟩ := hL.info hte
    rw [ha] at g5
    obtain ⟨a, rfl⟩ : ∃ a, zv = .agg a := by cases zv <;> simp_all
    have hza : a.toList = te.zero := g3
    have hzr : (zeroValue eT).run P w = .ok (.agg a) w := by simp [zeroValue, typeInfo, g1, g2]
    refine ⟨.agg a, ?_, by rw [f2]; simp only [Option.getD_none, RA, RT]; exact ⟨te.zero, by rw [← hza], lits_rts M te.zero⟩⟩
    simp [execOp, Instr.lookup, h1.1, h2, run_underlying hu, MapKept.run_getObj_map hb, MapKept.run_checkKey hk (hκ.is k), MapKept.run_findKey hk f1, hzr]
  · obtain ⟨u, hu1, hu2⟩ := hvals'.get (j := j) (t := t) (by rw [List.getElem?_map, f3]; rfl)
    rw [List.getElem?_map, f2] at hu1
    obtain rfl : e'.val = u := by simpa using hu1
    refine ⟨e'.val, ?_, by rw [f4]; simpa only [Option.getD_some, RA] using hu2⟩
    simp [execOp, Instr.lookup, h1.1, h2, run_underlying hu, MapKept.run_getObj_map hb, MapKept.run_checkKey hk (hκ.is k), MapKept.run_findKey hk f1]
end
end Go.Proofs.Ytgjfiedepfjdcaa
