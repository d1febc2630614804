/-
  Texts of this proof, part 6: Ab19 Ab26 Ab20 Ab23 Ab24 Ab29 Ab32 Ab33 Ab37 Ab38 Ab39 Ab40 Ab42 Ab43 Ab47 Ab50 Ir.
-/
import Derived.Test.YthloejmmgdjimaaDoorQSessionSays5
import Derived.Laws.IdiomRangeMap
import Derived.Laws.Strings2
import Derived.Lib.AppendStr
import Derived.Lib.AppendZerosOnto
import Derived.Lib.MinMax
import Derived.WideKeyEntry
namespace Go.Proofs.YthloejmmgdjimaaDoor
open Go.RowKit
section
variable {P : Program} {F : Frm} {L : Tab} {d : Option Tmp} {ty : TypeId} {pos : String} {aft : Array Edge} {g : Option (Nat × Bool)} {ρ : Operand → AV} {hp : List Blk} {K : AV → List Blk → Prop}
theorem lo_box_frz {t : TypeId} {x : Operand} {v : AV} {ts : List T} (hv : ρ x = v) (h1 : allOne (cellsA v) = true) (hz : Rzs [] (cellsA v) ts) (h : K (.c (.pin ts 0)) hp) : LO P F ⟨d, .box t x, ty, pos, aft, g⟩ ρ hp K := by
  refine ⟨fun M e w he hh => ?_⟩
  have hx := he x (by first | (simp [Op.operands]; done) | simp [Op.operands, Call.operands])
  rw [hv] at hx
  obtain ⟨hc, ho⟩ := cells_of hx h1
  have : (execOp e ⟨d, .box t x, ty, pos, aft, g⟩).run P w = .ok (.value (.pointer (some ⟨w.heap.size, 0, none⟩))) (w.alloc (.cells (e x).cells t)) := by
    simp [execOp, Instr.box, newVar, newRow]
  rw [this]
  have hyt := cls_sound _ _ _ hz hc
  have hb : Below w.heap.size w (w.alloc (.cells (e x).cells t)) := (Below.refl _ _).alloc (Nat.le_refl _) _
  have hm0 := hh.mem.below hb
  have hM := frz_ext (M := M) w.heap.size (w.alloc (.cells (e x).cells t))
  refine ⟨frz M w.heap.size (w.alloc (.cells (e x).cells t)), _, hp, h, (hM.low hh.frm.size), hh.below hb hM (frz_ok hm0 _), ?_⟩
  simp only [RA, RT]
  refine ⟨⟨w.heap.size, 0, none⟩, (e x).cells.toList, by rw [box_add], fun j u hj => ?_, RTs.mono hM.sub _ _ hyt⟩
  have hadd : (⟨w.heap.size, 0, none⟩ : Addr).add j = ⟨w.heap.size, j, none⟩ := by rw [box_add]; simp
  rw [hadd]
  refine frz_new (mem_fresh hh.mem (Nat.le_refl _)) (Nat.le_refl _) ?_ (ho u (List.mem_of_getElem? hj))
  rw [World.cell?_alloc_new]
  simpa using hj
theorem zBf {t : TypeId} {x : Operand} {v : AV} {cs : List AV} {ts : List T} (h : K (.c (.pin ts 0)) hp) (hv : fc (ρ x) = some v := by exact rfl) (hc : evl (cellsA v) = some cs := by exact rfl) (h1 : allOne cs = true := by first | exact rfl | assumption) (hz : Rzs [] cs ts := by repeat (first | exact rzs_nil | apply rzs_cons | exact rz_c | exact rz_nil rfl | apply rz_agg | apply rz_fn | apply rz_tup)) : LO P F ⟨d, .box t x, ty, pos, aft, g⟩ ρ hp K :=
  lo_box_frz (fc_eq hv) (by rw [← evl_eq hc]; exact h1) (by rw [← evl_eq hc]; exact hz) h
end
end Go.Proofs.YthloejmmgdjimaaDoor
namespace Go.Proofs.YthloejmmgdjimaaDoor
open Go.RowKit
structure Hold (G : Prop) : Prop where
  out : G
/-- operations and control, asq far asq they are plain -/
theorem gG {G G' : Prop} (h : G') (e : Hold G' → G := by
    intro h
    first | refine zNil ?_ | refine zOp ?_ | refine zOpn ?_ | refine zNo ?_ | refine zNon ?_ | refine zUn ?_ | refine zUnn ?_ | refine zYes ?_ | refine zYesn ?_ | (refine zkL ?_; first | refine zL1 ?_ | refine zL2 ?_ | refine zL3 ?_ | refine zLp ?_) | refine zM ?_ | (refine zkF ?_; first | refine zF1 ?_ | refine zF2 ?_ | refine zF3 ?_) | refine zA ?_ | (refine zkB ?_; first | refine zC5 ?_ | refine zC6 ?_ | refine zC1 ?_ | refine zC2 ?_ | refine zC3 ?_ | refine zC4 ?_ | refine zS5 ?_ | refine zS6 ?_ | refine zS1 ?_ | refine zS2 ?_ | refine zS3 ?_ | refine zS4 ?_ | refine zInc ?_ | refine zQ1 ?_ | refine zQ2 ?_ | refine zQ3 ?_ | refine zQ4 ?_ | refine zQ5 ?_ | refine zQ6 ?_) | (refine zkI ?_; first | refine zN3 ?_ | refine zN4 ?_) | refine zS ?_ | refine zPt ?_ | refine zPf ?_ | refine zE ?_ | refine zEA ?_ | refine zNot ?_ | refine zBd ?_ | refine zFn ?_ | refine zK1 ?_ | refine zK2 ?_ | refine zBs ?_ | refine ac_seq ?_ | refine ac_block ?_ | refine ac_region ?_ | refine ac_skip ?_ | refine ac_exit ?_ | refine ac_ret ?_ | refine zT ?_ | refine zF ?_
    repeat (first | refine zNil ?_ | refine zOp ?_ | refine zOpn ?_ | refine zNo ?_ | refine zNon ?_ | refine zUn ?_ | refine zUnn ?_ | refine zYes ?_ | refine zYesn ?_ | (refine zkL ?_; first | refine zL1 ?_ | refine zL2 ?_ | refine zL3 ?_ | refine zLp ?_) | refine zM ?_ | (refine zkF ?_; first | refine zF1 ?_ | refine zF2 ?_ | refine zF3 ?_) | refine zA ?_ | (refine zkB ?_; first | refine zC5 ?_ | refine zC6 ?_ | refine zC1 ?_ | refine zC2 ?_ | refine zC3 ?_ | refine zC4 ?_ | refine zS5 ?_ | refine zS6 ?_ | refine zS1 ?_ | refine zS2 ?_ | refine zS3 ?_ | refine zS4 ?_ | refine zInc ?_ | refine zQ1 ?_ | refine zQ2 ?_ | refine zQ3 ?_ | refine zQ4 ?_ | refine zQ5 ?_ | refine zQ6 ?_) | (refine zkI ?_; first | refine zN3 ?_ | refine zN4 ?_) | refine zS ?_ | refine zPt ?_ | refine zPf ?_ | refine zE ?_ | refine zEA ?_ | refine zNot ?_ | refine zBd ?_ | refine zFn ?_ | refine zK1 ?_ | refine zK2 ?_ | refine zBs ?_ | refine ac_seq ?_ | refine ac_block ?_ | refine ac_region ?_ | refine ac_skip ?_ | refine ac_exit ?_ | refine ac_ret ?_ | refine zT ?_ | refine zF ?_)
    exact h.out) : G := e ⟨h⟩
/-- the same, but no rows that are written out -/
theorem gX {G G' : Prop} (h : G') (e : Hold G' → G := by
    intro h
    first | refine zNil ?_ | refine zOp ?_ | refine zOpn ?_ | refine zNo ?_ | refine zNon ?_ | refine zUn ?_ | refine zUnn ?_ | refine zYes ?_ | refine zYesn ?_ | (refine zkL ?_; first | refine zL1 ?_ | refine zL2 ?_ | refine zL3 ?_ | refine zLp ?_) | refine zM ?_ | (refine zkF ?_; first | refine zF1 ?_ | refine zF2 ?_ | refine zF3 ?_) | refine zA ?_ | (refine zkB ?_; first | refine zC5 ?_ | refine zC6 ?_ | refine zC1 ?_ | refine zC2 ?_ | refine zC3 ?_ | refine zC4 ?_ | refine zS5 ?_ | refine zS6 ?_ | refine zS1 ?_ | refine zS2 ?_ | refine zS3 ?_ | refine zS4 ?_ | refine zInc ?_ | refine zQ1 ?_ | refine zQ2 ?_ | refine zQ3 ?_ | refine zQ4 ?_ | refine zQ5 ?_ | refine zQ6 ?_) | (refine zkI ?_; first | refine zN3 ?_ | refine zN4 ?_) | refine zS ?_ | refine zPt ?_ | refine zPf ?_ | refine zE ?_ | refine zEA ?_ | refine zNot ?_ | refine zBd ?_ | refine zFn ?_ | refine zK1 ?_ | refine zK2 ?_ | refine ac_seq ?_ | refine ac_block ?_ | refine ac_region ?_ | refine ac_skip ?_ | refine ac_exit ?_ | refine ac_ret ?_ | refine zT ?_ | refine zF ?_
    repeat (first | refine zNil ?_ | refine zOp ?_ | refine zOpn ?_ | refine zNo ?_ | refine zNon ?_ | refine zUn ?_ | refine zUnn ?_ | refine zYes ?_ | refine zYesn ?_ | (refine zkL ?_; first | refine zL1 ?_ | refine zL2 ?_ | refine zL3 ?_ | refine zLp ?_) | refine zM ?_ | (refine zkF ?_; first | refine zF1 ?_ | refine zF2 ?_ | refine zF3 ?_) | refine zA ?_ | (refine zkB ?_; first | refine zC5 ?_ | refine zC6 ?_ | refine zC1 ?_ | refine zC2 ?_ | refine zC3 ?_ | refine zC4 ?_ | refine zS5 ?_ | refine zS6 ?_ | refine zS1 ?_ | refine zS2 ?_ | refine zS3 ?_ | refine zS4 ?_ | refine zInc ?_ | refine zQ1 ?_ | refine zQ2 ?_ | refine zQ3 ?_ | refine zQ4 ?_ | refine zQ5 ?_ | refine zQ6 ?_) | (refine zkI ?_; first | refine zN3 ?_ | refine zN4 ?_) | refine zS ?_ | refine zPt ?_ | refine zPf ?_ | refine zE ?_ | refine zEA ?_ | refine zNot ?_ | refine zBd ?_ | refine zFn ?_ | refine zK1 ?_ | refine zK2 ?_ | refine ac_seq ?_ | refine ac_block ?_ | refine ac_region ?_ | refine ac_skip ?_ | refine ac_exit ?_ | refine ac_ret ?_ | refine zT ?_ | refine zF ?_)
    exact h.out) : G := e ⟨h⟩
/-- operations alone -/
theorem gO {G G' : Prop} (h : G') (e : Hold G' → G := by
    intro h
    first | refine zNil ?_ | refine zOp ?_ | refine zOpn ?_ | refine zNo ?_ | refine zNon ?_ | refine zUn ?_ | refine zUnn ?_ | refine zYes ?_ | refine zYesn ?_ | (refine zkL ?_; first | refine zL1 ?_ | refine zL2 ?_ | refine zL3 ?_ | refine zLp ?_) | refine zM ?_ | (refine zkF ?_; first | refine zF1 ?_ | refine zF2 ?_ | refine zF3 ?_) | refine zA ?_ | (refine zkB ?_; first | refine zC5 ?_ | refine zC6 ?_ | refine zC1 ?_ | refine zC2 ?_ | refine zC3 ?_ | refine zC4 ?_ | refine zS5 ?_ | refine zS6 ?_ | refine zS1 ?_ | refine zS2 ?_ | refine zS3 ?_ | refine zS4 ?_ | refine zInc ?_ | refine zQ1 ?_ | refine zQ2 ?_ | refine zQ3 ?_ | refine zQ4 ?_ | refine zQ5 ?_ | refine zQ6 ?_) | (refine zkI ?_; first | refine zN3 ?_ | refine zN4 ?_) | refine zS ?_ | refine zPt ?_ | refine zPf ?_ | refine zE ?_ | refine zEA ?_ | refine zNot ?_ | refine zBd ?_ | refine zFn ?_ | refine zK1 ?_ | refine zK2 ?_ | refine zBs ?_
    repeat (first | refine zNil ?_ | refine zOp ?_ | refine zOpn ?_ | refine zNo ?_ | refine zNon ?_ | refine zUn ?_ | refine zUnn ?_ | refine zYes ?_ | refine zYesn ?_ | (refine zkL ?_; first | refine zL1 ?_ | refine zL2 ?_ | refine zL3 ?_ | refine zLp ?_) | refine zM ?_ | (refine zkF ?_; first | refine zF1 ?_ | refine zF2 ?_ | refine zF3 ?_) | refine zA ?_ | (refine zkB ?_; first | refine zC5 ?_ | refine zC6 ?_ | refine zC1 ?_ | refine zC2 ?_ | refine zC3 ?_ | refine zC4 ?_ | refine zS5 ?_ | refine zS6 ?_ | refine zS1 ?_ | refine zS2 ?_ | refine zS3 ?_ | refine zS4 ?_ | refine zInc ?_ | refine zQ1 ?_ | refine zQ2 ?_ | refine zQ3 ?_ | refine zQ4 ?_ | refine zQ5 ?_ | refine zQ6 ?_) | (refine zkI ?_; first | refine zN3 ?_ | refine zN4 ?_) | refine zS ?_ | refine zPt ?_ | refine zPf ?_ | refine zE ?_ | refine zEA ?_ | refine zNot ?_ | refine zBd ?_ | refine zFn ?_ | refine zK1 ?_ | refine zK2 ?_ | refine zBs ?_)
    exact h.out) : G := e ⟨h⟩
/-- operations of a region that draws, asq long asq they only look -/
theorem gW {G G' : Prop} (h : G') (e : Hold G' → G := by
    intro h
    first | (apply w_q; (focus exact rfl); (focus exact rfl); focus (intro _; (first | (refine zkL ?_; first | refine zL1 ?_ | refine zL2 ?_ | refine zL3 ?_ | refine zLp ?_) | refine zM ?_ | (refine zkF ?_; first | refine zF1 ?_ | refine zF2 ?_ | refine zF3 ?_) | refine zA ?_ | (refine zkB ?_; first | refine zC5 ?_ | refine zC6 ?_ | refine zC1 ?_ | refine zC2 ?_ | refine zC3 ?_ | refine zC4 ?_ | refine zS5 ?_ | refine zS6 ?_ | refine zS1 ?_ | refine zS2 ?_ | refine zS3 ?_ | refine zS4 ?_ | refine zInc ?_ | refine zQ1 ?_ | refine zQ2 ?_ | refine zQ3 ?_ | refine zQ4 ?_ | refine zQ5 ?_ | refine zQ6 ?_) | (refine zkI ?_; first | refine zN3 ?_ | refine zN4 ?_) | refine zPt ?_ | refine zPf ?_ | refine zE ?_ | refine zEA ?_ | refine zNot ?_ | refine zBd ?_ | refine zBs ?_ | refine zFn ?_ | refine zK1 ?_ | refine zK2 ?_ | (refine zkI ?_; first | refine zN1 (fun _ => ?_) | refine zN2 (fun _ => ?_))); exact det_refl)) | (apply w_p; (focus exact rfl); (focus exact rfl); focus (intro _; (first | (refine zkL ?_; first | refine zL1 ?_ | refine zL2 ?_ | refine zL3 ?_ | refine zLp ?_) | refine zM ?_ | (refine zkF ?_; first | refine zF1 ?_ | refine zF2 ?_ | refine zF3 ?_) | refine zA ?_ | (refine zkB ?_; first | refine zC5 ?_ | refine zC6 ?_ | refine zC1 ?_ | refine zC2 ?_ | refine zC3 ?_ | refine zC4 ?_ | refine zS5 ?_ | refine zS6 ?_ | refine zS1 ?_ | refine zS2 ?_ | refine zS3 ?_ | refine zS4 ?_ | refine zInc ?_ | refine zQ1 ?_ | refine zQ2 ?_ | refine zQ3 ?_ | refine zQ4 ?_ | refine zQ5 ?_ | refine zQ6 ?_) | (refine zkI ?_; first | refine zN3 ?_ | refine zN4 ?_) | refine zPt ?_ | refine zPf ?_ | refine zE ?_ | refine zEA ?_ | refine zNot ?_ | refine zBd ?_ | refine zBs ?_ | refine zFn ?_ | refine zK1 ?_ | refine zK2 ?_ | (refine zkI ?_; first | refine zN1 (fun _ => ?_) | refine zN2 (fun _ => ?_))); exact det_refl)) | (apply w_un; (focus exact rfl); (focus exact rfl); (focus exact rfl); (focus exact rfl)) | (apply w_no; (focus exact rfl); (focus exact rfl); (focus exact rfl); (focus exact rfl); focus (first | rfl | assumption | exact neg_t (by assumption) | exact neg_f (by assumption))) | (apply w_qg; (focus exact rfl); (focus exact rfl); (focus exact rfl); (focus exact rfl); (focus (first | rfl | assumption | exact neg_t (by assumption) | exact neg_f (by assumption))); (focus (intro _; (first | (refine zkL ?_; first | refine zL1 ?_ | refine zL2 ?_ | refine zL3 ?_ | refine zLp ?_) | refine zM ?_ | (refine zkF ?_; first | refine zF1 ?_ | refine zF2 ?_ | refine zF3 ?_) | refine zA ?_ | (refine zkB ?_; first | refine zC5 ?_ | refine zC6 ?_ | refine zC1 ?_ | refine zC2 ?_ | refine zC3 ?_ | refine zC4 ?_ | refine zS5 ?_ | refine zS6 ?_ | refine zS1 ?_ | refine zS2 ?_ | refine zS3 ?_ | refine zS4 ?_ | refine zInc ?_ | refine zQ1 ?_ | refine zQ2 ?_ | refine zQ3 ?_ | refine zQ4 ?_ | refine zQ5 ?_ | refine zQ6 ?_) | (refine zkI ?_; first | refine zN3 ?_ | refine zN4 ?_) | refine zPt ?_ | refine zPf ?_ | refine zE ?_ | refine zEA ?_ | refine zNot ?_ | refine zBd ?_ | refine zBs ?_ | refine zFn ?_ | refine zK1 ?_ | refine zK2 ?_ | (refine zkI ?_; first | refine zN1 (fun _ => ?_) | refine zN2 (fun _ => ?_))); exact det_refl)))
    repeat (first | (apply w_q; (focus exact rfl); (focus exact rfl); focus (intro _; (first | (refine zkL ?_; first | refine zL1 ?_ | refine zL2 ?_ | refine zL3 ?_ | refine zLp ?_) | refine zM ?_ | (refine zkF ?_; first | refine zF1 ?_ | refine zF2 ?_ | refine zF3 ?_) | refine zA ?_ | (refine zkB ?_; first | refine zC5 ?_ | refine zC6 ?_ | refine zC1 ?_ | refine zC2 ?_ | refine zC3 ?_ | refine zC4 ?_ | refine zS5 ?_ | refine zS6 ?_ | refine zS1 ?_ | refine zS2 ?_ | refine zS3 ?_ | refine zS4 ?_ | refine zInc ?_ | refine zQ1 ?_ | refine zQ2 ?_ | refine zQ3 ?_ | refine zQ4 ?_ | refine zQ5 ?_ | refine zQ6 ?_) | (refine zkI ?_; first | refine zN3 ?_ | refine zN4 ?_) | refine zPt ?_ | refine zPf ?_ | refine zE ?_ | refine zEA ?_ | refine zNot ?_ | refine zBd ?_ | refine zBs ?_ | refine zFn ?_ | refine zK1 ?_ | refine zK2 ?_ | (refine zkI ?_; first | refine zN1 (fun _ => ?_) | refine zN2 (fun _ => ?_))); exact det_refl)) | (apply w_p; (focus exact rfl); (focus exact rfl); focus (intro _; (first | (refine zkL ?_; first | refine zL1 ?_ | refine zL2 ?_ | refine zL3 ?_ | refine zLp ?_) | refine zM ?_ | (refine zkF ?_; first | refine zF1 ?_ | refine zF2 ?_ | refine zF3 ?_) | refine zA ?_ | (refine zkB ?_; first | refine zC5 ?_ | refine zC6 ?_ | refine zC1 ?_ | refine zC2 ?_ | refine zC3 ?_ | refine zC4 ?_ | refine zS5 ?_ | refine zS6 ?_ | refine zS1 ?_ | refine zS2 ?_ | refine zS3 ?_ | refine zS4 ?_ | refine zInc ?_ | refine zQ1 ?_ | refine zQ2 ?_ | refine zQ3 ?_ | refine zQ4 ?_ | refine zQ5 ?_ | refine zQ6 ?_) | (refine zkI ?_; first | refine zN3 ?_ | refine zN4 ?_) | refine zPt ?_ | refine zPf ?_ | refine zE ?_ | refine zEA ?_ | refine zNot ?_ | refine zBd ?_ | refine zBs ?_ | refine zFn ?_ | refine zK1 ?_ | refine zK2 ?_ | (refine zkI ?_; first | refine zN1 (fun _ => ?_) | refine zN2 (fun _ => ?_))); exact det_refl)) | (apply w_un; (focus exact rfl); (focus exact rfl); (focus exact rfl); (focus exact rfl)) | (apply w_no; (focus exact rfl); (focus exact rfl); (focus exact rfl); (focus exact rfl); focus (first | rfl | assumption | exact neg_t (by assumption) | exact neg_f (by assumption))) | (apply w_qg; (focus exact rfl); (focus exact rfl); (focus exact rfl); (focus exact rfl); (focus (first | rfl | assumption | exact neg_t (by assumption) | exact neg_f (by assumption))); (focus (intro _; (first | (refine zkL ?_; first | refine zL1 ?_ | refine zL2 ?_ | refine zL3 ?_ | refine zLp ?_) | refine zM ?_ | (refine zkF ?_; first | refine zF1 ?_ | refine zF2 ?_ | refine zF3 ?_) | refine zA ?_ | (refine zkB ?_; first | refine zC5 ?_ | refine zC6 ?_ | refine zC1 ?_ | refine zC2 ?_ | refine zC3 ?_ | refine zC4 ?_ | refine zS5 ?_ | refine zS6 ?_ | refine zS1 ?_ | refine zS2 ?_ | refine zS3 ?_ | refine zS4 ?_ | refine zInc ?_ | refine zQ1 ?_ | refine zQ2 ?_ | refine zQ3 ?_ | refine zQ4 ?_ | refine zQ5 ?_ | refine zQ6 ?_) | (refine zkI ?_; first | refine zN3 ?_ | refine zN4 ?_) | refine zPt ?_ | refine zPf ?_ | refine zE ?_ | refine zEA ?_ | refine zNot ?_ | refine zBd ?_ | refine zBs ?_ | refine zFn ?_ | refine zK1 ?_ | refine zK2 ?_ | (refine zkI ?_; first | refine zN1 (fun _ => ?_) | refine zN2 (fun _ => ?_))); exact det_refl))))
    exact h.out) : G := e ⟨h⟩
end Go.Proofs.YthloejmmgdjimaaDoor
namespace Go.Proofs.YthloejmmgdjimaaDoor
open Go.RowKit
theorem HeapOk.take {F : Frm} {M : Mm} {hp : List Blk} {w : World} (h : HeapOk F M hp w) (k : Nat) : HeapOk F M (hp.take k) w := by
  have hg : ∀ (i : Nat) (x : Blk), (hp.take k)[i]? = some x → hp[i]? = some x := by
    intro i x hx
    rw [List.getElem?_take] at hx
    split at hx
    · exact hx
    · cases hx
  exact ⟨h.mem, h.ext, h.frm, fun i x hx => h.at_ i x (hg i x hx), fun i j x y b hx hy => h.sep i j x y b (hg i x hx) (hg j y hy), fun i x b hx => h.out i x b (hg i x hx)⟩
/-- the function, given values that read so and blocks of the caller's own, returns a value that reads so, the blocks turned -/
def AG (P : Program) (f : FuncId) (asq : List AV) (hs : List Blk) (R : AV → List Blk → Prop) : Prop :=
  Enters P f ∧ ∀ (F : Frm) (M : Mm) (w : World) (vs : List Value), HeapOk F M hs w → RAs M asq vs →
    Calls P f vs.toArray w fun e w' => ∃ v r hs' M', e = .returned v ∧ R r hs' ∧ Ext F.may M M' ∧ HeapOk F M' hs' w' ∧ RA M' r v
theorem AG.imp {P : Program} {f : FuncId} {asq : List AV} {hs : List Blk} {R R' : AV → List Blk → Prop} (h : AG P f asq hs R) (hi : ∀ r hs, R r hs → R' r hs) : AG P f asq hs R' :=
  ⟨h.1, fun F M w vs hM hv => (h.2 F M w vs hM hv).mono fun _ _ ⟨v, r, hs', M', h1, h2, h3⟩ => ⟨v, r, hs', M', h1, hi r hs' h2, h3⟩⟩
def selB (hp : List Blk) : List Nat → Option (List Blk)
  | [] => some []
  | i :: is => match hp[i]?, selB hp is with | some x, some r => some (x :: r) | _, _ => none
def freshB : List Nat → Bool
  | [] => true
  | i :: is => !is.contains i && freshB is
theorem selB_get {hp : List Blk} : ∀ {sel : List Nat} {hs : List Blk}, selB hp sel = some hs → ∀ {i : Nat} {x : Blk}, hs[i]? = some x → ∃ j : Nat, sel[i]? = some j ∧ hp[j]? = some x
  | [], hs, h, i, x, hx => by simp only [selB, Option.some.injEq] at h; subst h; simp at hx
  | k :: is, hs, h, i, x, hx => by
    simp only [selB] at h
    cases h1 : hp[k]? with
    | none => rw [h1] at h; cases h
    | some y =>
      cases h2 : selB hp is with
      | none => rw [h1, h2] at h; cases h
      | some r =>
        rw [h1, h2] at h
        simp only [Option.some.injEq] at h
        subst h
        cases i with
        | zero => simp only [List.getElem?_cons_zero, Option.some.injEq] at hx; subst hx; exact ⟨k, rfl, h1⟩
        | succ i => obtain ⟨j, h3, h4⟩ := selB_get h2 (i := i) (by simpa using hx); exact ⟨j, by simpa using h3, h4⟩
theorem freshB_inj : ∀ {sel : List Nat}, freshB sel = true → ∀ {i i' j : Nat}, sel[i]? = some j → sel[i']? = some j → i = i'
  | [], _, i, i', j, h, _ => by simp at h
  | k :: is, hf, i, i', j, h, h' => by
    simp only [freshB, Bool.and_eq_true, Bool.not_eq_true', List.contains_eq_mem, decide_eq_false_iff_not] at hf
    cases i with
    | zero =>
      simp only [List.getElem?_cons_zero, Option.some.injEq] at h
      cases i' with
      | zero => rfl
      | succ i' => simp only [List.getElem?_cons_succ] at h'; exact absurd (h ▸ List.mem_of_getElem? h') hf.1
    | succ i =>
      simp only [List.getElem?_cons_succ] at h
      cases i' with
      | zero => simp only [List.getElem?_cons_zero, Option.some.injEq] at h'; exact absurd (h' ▸ List.mem_of_getElem? h) hf.1
      | succ i' => simp only [List.getElem?_cons_succ] at h'; rw [freshB_inj hf.2 h h']
def Re (a b : AV) : Prop := ∀ M u, RA M a u → RA M b u
def Res (asq bs : List AV) : Prop := ∀ M us, RAs M asq us → RAs M bs us
theorem re_own {i j : Nat} {v : Value} : Re (.own i v) (.own j v) := fun M u h => by simp only [RA] at h ⊢; exact h
theorem re_ptr {i j b off : Nat} : Re (.ptr i b off) (.ptr j b off) := fun M u h => by simp only [RA] at h ⊢; exact h
theorem res_nil : Res [] [] := fun _ _ h => h
theorem res_cons {a b : AV} {asq bs : List AV} (h : Re a b) (h' : Res asq bs) : Res (a :: asq) (b :: bs) := fun M us hu => by
  simp only [RAs] at hu ⊢
  obtain ⟨x, r, e, h1, h2⟩ := hu
  exact ⟨x, r, e, h M x h1, h' M r h2⟩
end Go.Proofs.YthloejmmgdjimaaDoor
namespace Go.Proofs.YthloejmmgdjimaaDoor
open Go.RowKit
def bs (l : List UInt8) : ByteArray := ⟨l.toArray⟩
theorem bs_app (a b : List UInt8) : bs a ++ bs b = bs (a ++ b) := by
  apply ByteArray.ext
  simp [bs]
theorem bs_size' (l : List UInt8) : (bs l).size = l.length := by simp [bs, ByteArray.size]
section
variable {P : Program} {F : Frm} {L : Tab} {d : Option Tmp} {ty : TypeId} {pos : String} {aft : Array Edge} {g : Option (Nat × Bool)} {ρ : Operand → AV} {hp : List Blk} {K : AV → List Blk → Prop}
theorem zBo {t el : TypeId} {ti te : TI} {n k : Nat} {parts : List (Nat × Operand)} {cs cs' : List AV} {ts : List T} {hp' : Value → List Blk} (h : ∀ v, K (.own k v) (hp' v)) (hL : TabOk P L := by exact tok) (ht : L.look t = some ti := by exact rfl) (hd : ti.d = .slice el := by exact rfl) (hte : L.look el = some te := by exact rfl) (h0 : Nat.ble 1 te.size = true := by exact rfl) (hn : Nat.ble (n * te.size) 16777216 = true := by exact rfl)
    (hf : fillA (fun i => some (i * te.size, te.size)) ((List.range (n * te.size)).map fun j => .c (.lit (te.zero.getD (j % te.size) undef))) (parts.map fun p => (p.1, ρ p.2)) = some cs := by exact rfl) (he : evl cs = some cs' := by exact rfl) (hz : Rzs [] cs' ts := by repeat (first | exact rzs_nil | apply rzs_cons | exact rz_c | exact rz_nil rfl | apply rz_agg | exact rz_own rfl | apply rz_fn | exact rz_ptr rfl | apply rz_tup)) (hk : lenU hp = some k := by exact rfl) (hq : ∀ v, evl (hp ++ [.row v el te.size n ts]) = some (hp' v) := by exact fun _ => rfl) :
    LO P F ⟨d, .buildSlice t n parts.toArray, ty, pos, aft, g⟩ ρ hp K := v_bslice_own hL ht hd hte h0 hn hf he hz hk hq h
theorem zCatb {t t' : TypeId} {x y : Operand} (a b : List UInt8) (hb : a.length + b.length ≤ 9223372036854775807) (h : K (.c (.lit (.string (bs (a ++ b))))) hp) (hx : ρ x = .c (.lit (.string (bs a))) := by exact rfl) (hy : ρ y = .c (.lit (.string (bs b))) := by exact rfl) : LO P F ⟨d, .binOp .add t x y t', ty, pos, aft, g⟩ ρ hp K :=
  lo_cat hx hy (by rw [bs_size', bs_size']; exact hb) (by rw [bs_app]; exact h)
end
end Go.Proofs.YthloejmmgdjimaaDoor
namespace Go.Proofs.YthloejmmgdjimaaDoor
open Go.RowKit
inductive Pl where
  | fin (r : List Nat)
  | fork (p : List Nat) (i : Nat) (a : Pl) (j : Nat) (b : Pl)
def Pl.n : Pl → Nat
  | .fin r => r.length
  | .fork p _ a _ _ => a.n + 1 + p.length
end Go.Proofs.YthloejmmgdjimaaDoor
namespace Go.Proofs.YthloejmmgdjimaaDoor
open Go.RowKit
theorem guard_slice {P : Program} {op : BinOp} {t : TypeId} {x y : Operand} {a b : Option Addr} {n c n' c' : Nat} (w : World) : (eqGuard op t x y (.slice a n c) (.slice b n' c')).run P w = .ok () w := by
  unfold eqGuard; simp
theorem run_nilS {P : Program} {t e : TypeId} (h : P.underlying t = some (.slice e)) (a : Option Addr) (n c : Nat) (w : World) : (Op.equal t (.slice a n c) (.slice none 0 0)).run P w = .ok a.isNone w := by
  rw [Op.equal, show Op.maxDepth = 9999 + 1 from rfl, Op.equalIn]
  simp only [Sem.run_bind, run_underlying h, Result.andThen_ok]
  cases a <;> rfl
section
variable {P : Program} {F : Frm} {L : Tab} {d : Option Tmp} {ty : TypeId} {pos : String} {aft : Array Edge} {g : Option (Nat × Bool)} {ρ : Operand → AV} {hp : List Blk} {K : AV → List Blk → Prop}
theorem zNs {t t' el : TypeId} {ti : TI} {x y : Operand} {n sz : Nat} {cs : List T} (h : ∀ b : Bool, (b = true → n = 0) → K (.c (.lit (.bool b))) hp) (hL : TabOk P L := by exact tok) (hx : ρ x = .c (.row n sz cs) := by exact rfl) (hy : ρ y = .c (.lit (.slice none 0 0)) := by exact rfl) (ht : L.look t = some ti := by exact rfl) (hd : ti.d = .slice el := by exact rfl) : LO P F ⟨d, .binOp .eql t x y t', ty, pos, aft, g⟩ ρ hp K := by
  refine ⟨fun M e w he hh => ?_⟩
  have h1 := he x (by first | (simp [Op.operands]; done) | simp [Op.operands, Call.operands])
  rw [hx] at h1
  have h2 := he y (by first | (simp [Op.operands]; done) | simp [Op.operands, Call.operands])
  rw [hy] at h2
  simp only [RA, RT] at h1 h2
  obtain ⟨A, c, xs, hu, hc, hn, h0, hl, hat, hrt⟩ := h1
  have hr : (execOp e ⟨d, .binOp .eql t x y t', ty, pos, aft, g⟩).run P w = .ok (.value (.bool A.isNone)) w := by
    simp [execOp, hu, h2, guard_slice, binOp, run_nilS (hL.slice ht hd)]
  rw [hr]
  refine ⟨M, _, hp, h A.isNone fun hb => ?_, Ext.refl _ _, hh, by simp only [RA, RT]⟩
  rcases Nat.eq_zero_or_pos n with h3 | h3
  · exact h3
  · obtain ⟨ad, rfl, _⟩ := hat h3
    cases hb
end
end Go.Proofs.YthloejmmgdjimaaDoor
namespace Go.Proofs.YthloejmmgdjimaaDoor
open Go.RowKit
section
variable {P : Program} {F : Frm} {Q : Exit → AS → Prop} {τ : Nat → AV} {hp : List Blk} {N : Nat}
/-- what a slot holds, said otherwise -/
theorem wk_as (s : Nat) (v : AV) (h : ∀ M u, RA M (τ s) u → RA M v u) : Wk F ⟨τ, hp, N⟩ ⟨upd N s v τ, hp, N⟩ := by
  intro M a w hr
  refine ⟨M, fun i => ?_, hr.size, hr.defers, hr.heap⟩
  have := hr.tmps i
  simp only [upd] at this ⊢
  cases hc : Nat.beq i s with
  | false => simp only [Bool.false_and, cond_false]; exact this
  | true =>
    obtain rfl := Nat.eq_of_beq_eq_true hc
    cases hN : Nat.blt i N with
    | false => simp only [Bool.and_false, cond_false]; exact this
    | true => simp only [Bool.and_true, cond_true]; exact h M _ this
theorem x_as {c : Go.Code} (s : Nat) (v : AV) (h : ∀ M u, RA M (τ s) u → RA M v u) (hq : AC P F c Q ⟨upd N s v τ, hp, N⟩) : AC P F c Q ⟨τ, hp, N⟩ := ac_wk (wk_as s v h) hq
end
end Go.Proofs.YthloejmmgdjimaaDoor
namespace Go.Proofs.YthloejmmgdjimaaDoor
open Go.RowKit
section
variable {md : Region.Mode} {ops : Array Oper} {cls : Nat → Nat}
/-- m says, bit by bit, for whom each operation waits -/
def claimB (md : Region.Mode) (ops : Array Oper) (m : List Nat) : Bool :=
  (List.range ops.size).all fun j => (List.range ops.size).all fun i => !(m.getD j 0).testBit i ||
    (match ops[j]? with
      | some oj => oj.after.any fun e => Region.binds md e && (e.on == i || (Nat.blt e.on j && (m.getD e.on 0).testBit i))
      | none => false)
theorem claim_reach {m : List Nat} (h : claimB md ops m = true) {i : Nat} (hi : i < ops.size) : ∀ (f j : Nat), j < f → j < ops.size → (m.getD j 0).testBit i = true → reachB md ops f j i = true
  | 0, _, h0, _, _ => by omega
  | f + 1, j, hf, hj, hb => by
    have h1 := List.all_eq_true.1 (List.all_eq_true.1 h j (List.mem_range.2 hj)) i (List.mem_range.2 hi)
    rw [hb] at h1
    simp only [Bool.not_true, Bool.false_or] at h1
    unfold reachB
    split at h1
    · rename_i oj hoj
      rw [hoj]
      obtain ⟨e, he, hq⟩ := Array.any_eq_true'.1 h1
      refine Array.any_eq_true'.2 ⟨e, he, ?_⟩
      simp only [Bool.and_eq_true, Bool.or_eq_true, beq_iff_eq] at hq ⊢
      refine ⟨hq.1, hq.2.imp id fun h2 => ?_⟩
      have hlt : e.on < j := by simpa using h2.1
      exact claim_reach h hi f e.on (by omega) (by omega) h2.2
    · cases h1
def freeC (ops : Array Oper) (cls : Nat → Nat) (m : List Nat) (listed : Array Bool) (i : Nat) : Bool :=
  match ops[i]? with
  | none => false
  | some oi => (List.range ops.size).all fun j => j == i || listed.getD j true || (m.getD j 0).testBit i ||
      (match ops[j]? with | some oj => oi.apart ops oj && (cls j != 2 || cls i == 0) | none => true)
theorem freeC_A {m : List Nat} (h : claimB md ops m = true) {listed : Array Bool} {i : Nat} (hf : freeC ops cls m listed i = true) : freeA md ops cls listed i = true := by
  unfold freeC at hf
  unfold freeA
  split at hf
  · cases hf
  · rename_i oi hoi
    rw [hoi]
    refine List.all_eq_true.2 fun j hj => ?_
    have h1 := List.all_eq_true.1 hf j hj
    simp only [Bool.or_eq_true] at h1 ⊢
    rcases h1 with ((h1 | h1) | h1) | h1
    · exact .inl (.inl (.inl h1))
    · exact .inl (.inl (.inr h1))
    · exact .inl (.inr (claim_reach h (Array.getElem?_eq_some_iff.1 hoi).1 _ j (List.mem_range.1 hj) (List.mem_range.1 hj) h1))
    · exact .inr h1
def ordC (md : Region.Mode) (ops : Array Oper) (cls : Nat → Nat) (m : List Nat) : List Nat → Array Bool → Bool
  | [], listed => (Region.ready md ops listed).isEmpty
  | i :: r, listed => (if 2 ≤ cls i then decide (Region.ready md ops listed = [i]) else (Region.ready md ops listed).contains i && freeC ops cls m listed i) && ordC md ops cls m r (listed.setIfInBounds i true)
theorem ordC_B {m : List Nat} (h : claimB md ops m = true) : ∀ (r : List Nat) (listed : Array Bool), ordC md ops cls m r listed = true → ordB md ops cls r listed = true
  | [], listed, ho => ho
  | i :: r, listed, ho => by
    simp only [ordC, ordB, Bool.and_eq_true] at ho ⊢
    refine ⟨?_, ordC_B h r _ ho.2⟩
    by_cases h2 : 2 ≤ cls i
    · rw [if_pos h2] at ho ⊢; exact ho.1
    · rw [if_neg h2] at ho ⊢
      have h3 := ho.1
      simp only [Bool.and_eq_true] at h3 ⊢
      exact ⟨h3.1, freeC_A h h3.2⟩
end
section
variable {P : Program} {F : Frm} {τ : Nat → AV} {hp : List Blk} {N : Nat} {Q : Exit → AS → Prop} {id : Nat} {l : List Oper}
theorem ac_drawB (m c r : List Nat) (hm : P.follows .mixedOrders = true) (hB : (claimB .any l.toArray m && (ordC .any l.toArray (clsOf c) m r (Array.replicate l.toArray.size false) && Nat.beq r.length l.length)) = true)
    (h : WO P F l.toArray N (clsOf c) (fun τ' hp' => Q .normal ⟨τ', hp', N⟩) r τ hp) : AC P F (.region id l.toArray true) Q ⟨τ, hp, N⟩ := by
  simp only [Bool.and_eq_true] at hB
  refine ac_draw c r hm ?_ h
  simp only [Bool.and_eq_true]
  exact ⟨ordC_B hB.1 _ _ hB.2.1, hB.2.2⟩
end
end Go.Proofs.YthloejmmgdjimaaDoor
namespace Go.Proofs.YthloejmmgdjimaaDoor
open Go.RowKit
theorem TabOk.array {P : Program} {L : Tab} (hL : TabOk P L) {t e : TypeId} {n : Nat} {i : TI} (h : L.look t = some i) (hd : i.d = .array n e) : P.underlying t = some (.array n e) := by
  obtain ⟨d, h1, h2⟩ := hL.desc h
  rw [hd] at h2
  cases d <;> simp [descB] at h2
  rw [h1, h2.1, h2.2]
section
variable {P : Program} {F : Frm} {L : Tab} {d : Option Tmp} {ty : TypeId} {pos : String} {aft : Array Edge} {g : Option (Nat × Bool)} {ρ : Operand → AV} {hp : List Blk} {K : AV → List Blk → Prop}
theorem lo_build_arr (hL : TabOk P L) {t el : TypeId} {ti te : TI} {n : Nat} {parts : List (Nat × Operand)} {cs : List AV} (ht : L.look t = some ti) (hd : ti.d = .array n el) (hte : L.look el = some te) (hf : fillA (fun i => some (i * te.size, te.size)) (ti.zero.map fun v => .c (.lit v)) (parts.map fun p => (p.1, ρ p.2)) = some cs) (h : K (.agg cs) hp) : LO P F ⟨d, .build t parts.toArray, ty, pos, aft, g⟩ ρ hp K := by
  refine LO.same (fun M e w he hh => ?_) h
  obtain ⟨z, hz, hzc, _, hone⟩ := hL.zero ht
  obtain ⟨ys, g1, g2, _, _⟩ := fill_sound (pl' := fun i => some (i * te.size, te.size)) (fun i p hp => hp) (fun p hp => he p.2 (by simp only [Op.operands]; exact List.mem_map.2 ⟨p, by simpa using hp, rfl⟩)) (RAs.lits (M := M) ti.zero) hone hf
  refine ⟨.agg ys.toArray, ?_, by simp only [RA]; exact ⟨ys, rfl, g2⟩⟩
  have hz' : z.cells = ti.zero.toArray := by rw [← hzc]
  simp only [execOp, Instr.build, Sem.run_bind, hz, run_underlying (hL.array ht hd), Result.andThen_ok, hL.sizeOf hte, hz']
  simp only [List.map_toArray]
  rw [show (fun x : Nat × Operand => match x with | (i, x) => (i, e x)) = (fun p : Nat × Operand => (p.1, e p.2)) from rfl]
  rw [g1]
  rfl
theorem zBda {t el : TypeId} {ti te : TI} {n : Nat} {parts : List (Nat × Operand)} {cs cs' : List AV} (h : K (.agg cs') hp) (hL : TabOk P L := by exact tok) (ht : L.look t = some ti := by exact rfl) (hd : ti.d = .array n el := by exact rfl) (hte : L.look el = some te := by exact rfl) (hf : fillA (fun i => some (i * te.size, te.size)) (ti.zero.map fun v => .c (.lit v)) (parts.map fun p => (p.1, ρ p.2)) = some cs := by exact rfl) (he : evl cs = some cs' := by exact rfl) : LO P F ⟨d, .build t parts.toArray, ty, pos, aft, g⟩ ρ hp K :=
  lo_build_arr hL ht hd hte hf (by rw [← evl_eq he]; exact h)
theorem lo_idx_arr (hL : TabOk P L) {t el : TypeId} {ti te : TI} {x y : Operand} {i off n : Nat} {v : Value} {k : IntKind} {z : Int} (j : Nat) (hx : ρ x = .eptr i v off) (hy : ρ y = .c (.lit (.int k z))) (hz : z = (j : Int)) (hj : j < n) (ht : L.look t = some ti) (hd : ti.d = .array n el) (hte : L.look el = some te) (h : K (.eptr i v (off + j * te.size)) hp) : LO P F ⟨d, .indexAddr t x y, ty, pos, aft, g⟩ ρ hp K := by
  refine LO.same (fun M e w he hh => ?_) h
  have h1 := he x (by first | (simp [Op.operands]; done) | simp [Op.operands, Call.operands])
  rw [hx] at h1
  simp only [RA] at h1
  obtain ⟨ad, m, c, hv, hu⟩ := h1
  have h2 := he y (by first | (simp [Op.operands]; done) | simp [Op.operands, Call.operands])
  rw [hy] at h2
  simp only [RA, RT] at h2
  refine ⟨.pointer (some (ad.add (off + j * te.size))), ?_, by simp only [RA]; exact ⟨ad, m, c, hv, rfl⟩⟩
  subst hz
  simp [execOp, Instr.indexAt, hu, h2, asIntOf, run_underlying (hL.array ht hd), hL.sizeOf hte, hj, Instr.sureAddr, add_add']
theorem zIxa {t el : TypeId} {ti te : TI} {x y : Operand} {i off n : Nat} {v : Value} {k : IntKind} {z : Int} (j : Nat) (hj : j < n) (h : K (.eptr i v (off + j * te.size)) hp) (hz : z = (j : Int) := by exact rfl) (hL : TabOk P L := by exact tok) (hx : ρ x = .eptr i v off := by exact rfl) (hy : ρ y = .c (.lit (.int k z)) := by exact rfl) (ht : L.look t = some ti := by exact rfl) (hd : ti.d = .array n el := by exact rfl) (hte : L.look el = some te := by exact rfl) : LO P F ⟨d, .indexAddr t x y, ty, pos, aft, g⟩ ρ hp K :=
  lo_idx_arr hL j hx hy hz hj ht hd hte h
end
end Go.Proofs.YthloejmmgdjimaaDoor
namespace Go.Proofs.YthloejmmgdjimaaDoor
open Go.RowKit
inductive Pt where
  | fin (r : List Nat)
  | fork (p : List Nat) (i : Nat) (a : Pt) (j : Nat) (b : Pt)
  | fork3 (p : List Nat) (i : Nat) (a : Pt) (j : Nat) (b : Pt) (k : Nat) (c : Pt)
  | fork4 (p : List Nat) (i : Nat) (a : Pt) (j : Nat) (b : Pt) (k : Nat) (c : Pt) (m : Nat) (d : Pt)
def Pt.n : Pt → Nat
  | .fin r => r.length
  | .fork p _ a _ _ => a.n + 1 + p.length
  | .fork3 p _ a _ _ _ _ => a.n + 1 + p.length
  | .fork4 p _ a _ _ _ _ _ _ => a.n + 1 + p.length
section
variable (P : Program) (F : Frm) (md : Region.Mode) (ops : Array Oper) (N : Nat) (cls : Nat → Nat)
def ptB : Pt → Array Bool → Bool
  | .fin r, listed => ordB md ops cls r listed
  | .fork p i a j b, listed => ordP md ops cls p listed && decide (Region.ready md ops (lst p listed) = [i, j]) && ptB a ((lst p listed).setIfInBounds i true) && ptB b ((lst p listed).setIfInBounds j true) && Nat.beq a.n b.n
  | .fork3 p i a j b k c, listed => ordP md ops cls p listed && decide (Region.ready md ops (lst p listed) = [i, j, k]) && ptB a ((lst p listed).setIfInBounds i true) && ptB b ((lst p listed).setIfInBounds j true) && ptB c ((lst p listed).setIfInBounds k true) && (Nat.beq a.n b.n && Nat.beq a.n c.n)
  | .fork4 p i a j b k c m e, listed => ordP md ops cls p listed && decide (Region.ready md ops (lst p listed) = [i, j, k, m]) && ptB a ((lst p listed).setIfInBounds i true) && ptB b ((lst p listed).setIfInBounds j true) && ptB c ((lst p listed).setIfInBounds k true) && ptB e ((lst p listed).setIfInBounds m true) && (Nat.beq a.n b.n && (Nat.beq a.n c.n && Nat.beq a.n e.n))
def WTt (Kf : (Nat → AV) → List Blk → Prop) : Pt → (Nat → AV) → List Blk → Prop
  | .fin r, τ, hp => WO P F ops N cls Kf r τ hp
  | .fork p i a j b, τ, hp => WO P F ops N cls (fun τ hp => WO P F ops N cls (WTt Kf a) [i] τ hp ∧ WO P F ops N cls (WTt Kf b) [j] τ hp) p τ hp
  | .fork3 p i a j b k c, τ, hp => WO P F ops N cls (fun τ hp => WO P F ops N cls (WTt Kf a) [i] τ hp ∧ WO P F ops N cls (WTt Kf b) [j] τ hp ∧ WO P F ops N cls (WTt Kf c) [k] τ hp) p τ hp
  | .fork4 p i a j b k c m e, τ, hp => WO P F ops N cls (fun τ hp => WO P F ops N cls (WTt Kf a) [i] τ hp ∧ WO P F ops N cls (WTt Kf b) [j] τ hp ∧ WO P F ops N cls (WTt Kf c) [k] τ hp ∧ WO P F ops N cls (WTt Kf e) [m] τ hp) p τ hp
end
section
variable {P : Program} {F : Frm} {md : Region.Mode} {ops : Array Oper} {N : Nat} {cls : Nat → Nat} {Kf : (Nat → AV) → List Blk → Prop} {τ : Nat → AV} {hp : List Blk}
theorem wtt_fin {r : List Nat} (h : WO P F ops N cls Kf r τ hp) : WTt P F ops N cls Kf (.fin r) τ hp := h
theorem wtt_fork {p : List Nat} {i j : Nat} {a b : Pt} (h : WO P F ops N cls (fun τ hp => WO P F ops N cls (WTt P F ops N cls Kf a) [i] τ hp ∧ WO P F ops N cls (WTt P F ops N cls Kf b) [j] τ hp) p τ hp) : WTt P F ops N cls Kf (.fork p i a j b) τ hp := h
theorem wtt_fork3 {p : List Nat} {i j k : Nat} {a b c : Pt} (h : WO P F ops N cls (fun τ hp => WO P F ops N cls (WTt P F ops N cls Kf a) [i] τ hp ∧ WO P F ops N cls (WTt P F ops N cls Kf b) [j] τ hp ∧ WO P F ops N cls (WTt P F ops N cls Kf c) [k] τ hp) p τ hp) : WTt P F ops N cls Kf (.fork3 p i a j b k c) τ hp := h
theorem wtt_fork4 {p : List Nat} {i j k m : Nat} {a b c e : Pt} (h : WO P F ops N cls (fun τ hp => WO P F ops N cls (WTt P F ops N cls Kf a) [i] τ hp ∧ WO P F ops N cls (WTt P F ops N cls Kf b) [j] τ hp ∧ WO P F ops N cls (WTt P F ops N cls Kf c) [k] τ hp ∧ WO P F ops N cls (WTt P F ops N cls Kf e) [m] τ hp) p τ hp) : WTt P F ops N cls Kf (.fork4 p i a j b k c m e) τ hp := h
theorem anyA_pt : ∀ (t : Pt) (listed : Array Bool) (τ : Nat → AV) (hp : List Blk), ClosedL md ops listed → ptB md ops cls t listed = true → WTt P F ops N cls Kf t τ hp → AnyA P F md ops N cls Kf t.n listed τ hp
  | .fin r, listed, τ, hp, hc, hB, h => anyA_ord r listed τ hp hc hB h
  | .fork p i a j b, listed, τ, hp, hc, hB, h => by
    simp only [ptB, Bool.and_eq_true] at hB
    obtain ⟨⟨⟨⟨b1, b2⟩, b3⟩, b4⟩, b5⟩ := hB
    have hcl := ordP_closed p _ hc b1
    have hr := of_decide_eq_true b2
    refine anyA_pre (a.n + 1) p listed τ hp hc b1 (WO.mono p (fun τ' hp' h' => ?_) h)
    refine ⟨fun h0 => (by rw [hr] at h0; cases h0), fun k hk => ?_⟩
    have hk' := hk
    rw [hr] at hk'
    simp only [List.mem_cons, List.not_mem_nil, or_false] at hk'
    rcases hk' with rfl | rfl
    · exact opA_mono (fun τ' hp' h' => anyA_pt a _ τ' hp' (hcl.set hk) b3 h') h'.1
    · rw [Nat.eq_of_beq_eq_true b5]; exact opA_mono (fun τ' hp' h' => anyA_pt b _ τ' hp' (hcl.set hk) b4 h') h'.2
  | .fork3 p i a j b q c, listed, τ, hp, hc, hB, h => by
    simp only [ptB, Bool.and_eq_true] at hB
    obtain ⟨⟨⟨⟨⟨b1, b2⟩, b3⟩, b4⟩, b6⟩, b5, b7⟩ := hB
    have hcl := ordP_closed p _ hc b1
    have hr := of_decide_eq_true b2
    refine anyA_pre (a.n + 1) p listed τ hp hc b1 (WO.mono p (fun τ' hp' h' => ?_) h)
    refine ⟨fun h0 => (by rw [hr] at h0; cases h0), fun k hk => ?_⟩
    have hk' := hk
    rw [hr] at hk'
    simp only [List.mem_cons, List.not_mem_nil, or_false] at hk'
    rcases hk' with rfl | rfl | rfl
    · exact opA_mono (fun τ' hp' h' => anyA_pt a _ τ' hp' (hcl.set hk) b3 h') h'.1
    · rw [Nat.eq_of_beq_eq_true b5]; exact opA_mono (fun τ' hp' h' => anyA_pt b _ τ' hp' (hcl.set hk) b4 h') h'.2.1
    · rw [Nat.eq_of_beq_eq_true b7]; exact opA_mono (fun τ' hp' h' => anyA_pt c _ τ' hp' (hcl.set hk) b6 h') h'.2.2
  | .fork4 p i a j b q c m e, listed, τ, hp, hc, hB, h => by
    simp only [ptB, Bool.and_eq_true] at hB
    obtain ⟨⟨⟨⟨⟨⟨b1, b2⟩, b3⟩, b4⟩, b6⟩, b8⟩, b5, b7, b9⟩ := hB
    have hcl := ordP_closed p _ hc b1
    have hr := of_decide_eq_true b2
    refine anyA_pre (a.n + 1) p listed τ hp hc b1 (WO.mono p (fun τ' hp' h' => ?_) h)
    refine ⟨fun h0 => (by rw [hr] at h0; cases h0), fun k hk => ?_⟩
    have hk' := hk
    rw [hr] at hk'
    simp only [List.mem_cons, List.not_mem_nil, or_false] at hk'
    rcases hk' with rfl | rfl | rfl | rfl
    · exact opA_mono (fun τ' hp' h' => anyA_pt a _ τ' hp' (hcl.set hk) b3 h') h'.1
    · rw [Nat.eq_of_beq_eq_true b5]; exact opA_mono (fun τ' hp' h' => anyA_pt b _ τ' hp' (hcl.set hk) b4 h') h'.2.1
    · rw [Nat.eq_of_beq_eq_true b7]; exact opA_mono (fun τ' hp' h' => anyA_pt c _ τ' hp' (hcl.set hk) b6 h') h'.2.2.1
    · rw [Nat.eq_of_beq_eq_true b9]; exact opA_mono (fun τ' hp' h' => anyA_pt e _ τ' hp' (hcl.set hk) b8 h') h'.2.2.2
end
section
variable {P : Program} {F : Frm} {τ : Nat → AV} {hp : List Blk} {N : Nat} {Q : Exit → AS → Prop} {id : Nat} {l : List Oper}
theorem ac_drawT3 (c : List Nat) (t : Pt) (hm : P.follows .mixedOrders = true) (hB : (ptB .any l.toArray (clsOf c) t (Array.replicate l.toArray.size false) && Nat.beq t.n l.length) = true)
    (h : WTt P F l.toArray N (clsOf c) (fun τ' hp' => Q .normal ⟨τ', hp', N⟩) t τ hp) : AC P F (.region id l.toArray true) Q ⟨τ, hp, N⟩ := by
  refine ⟨fun M a w hr => ?_⟩
  simp only [Bool.and_eq_true] at hB
  have hlen := Nat.eq_of_beq_eq_true hB.2
  have hrd : Rep F M ⟨τ, hp, N⟩ a { w with drawn := w.drawn + 1 } := ⟨hr.tmps, hr.size, hr.defers, hr.heap.drew⟩
  have hcl : ClosedL .any l.toArray (Array.replicate l.toArray.size false) := fun j oj _ hl => by rw [getD_replicate_false] at hl; cases hl
  refine wp_region_any hm ?_
  have H := wpAny_of_A (Q := fun e a' w' => ∃ M' σ', Q e σ' ∧ Rep F M' σ' a' w') (fun M τ hp a w hk hr => ⟨M, _, hk, hr⟩) _ _ _ _ _ _ _ hrd (anyA_pt t _ τ hp hcl hB.1 h)
  rwa [hlen, show l.length = l.toArray.size by simp] at H
end
section
variable {P : Program} {F : Frm} {τ : Nat → AV} {hp : List Blk} {N : Nat} {Q : Exit → AS → Prop}
/-- where a row of the call's own has elements, it has an address -/
theorem x_row {c : Go.Code} (i : Nat) {v : Value} {e : TypeId} {sz n : Nat} {cs : List T} (hi : hp[i]? = some (.row v e sz n cs)) (hn : 0 < n) (h : (∃ ad m, v = .slice (some ad) n m) → AC P F c Q ⟨τ, hp, N⟩) : AC P F c Q ⟨τ, hp, N⟩ := by
  refine ⟨fun M a w hr => (h ?_).out M a w hr⟩
  obtain ⟨xs, ho, _⟩ := hr.heap.at_ i _ hi
  obtain ⟨A, c, rfl, _⟩ := ownO_shape ho
  obtain ⟨ad, rfl⟩ := ho.some_ (by omega)
  exact ⟨ad, c, rfl⟩
end
section
variable {P : Program} {F : Frm} {L : Tab} {d : Option Tmp} {ty : TypeId} {pos : String} {aft : Array Edge} {g : Option (Nat × Bool)} {ρ : Operand → AV} {hp : List Blk} {K : AV → List Blk → Prop}
/-- an index into a row of the call's own that has an address: no block is looked at -/
theorem zIxp {t el : TypeId} {ti te : TI} {x y : Operand} {i n sz : Nat} {v : Value} {k : IntKind} {z : Int} (j : Nat) (hv : ∃ ad m, v = .slice (some ad) n m) (hj : j < n) (h : K (.eptr i v (j * sz)) hp) (hz : z = (j : Int) := by exact rfl) (hL : TabOk P L := by exact tok) (hx : ρ x = .own i v := by exact rfl) (hy : ρ y = .c (.lit (.int k z)) := by exact rfl) (ht : L.look t = some ti := by exact rfl) (hd : ti.d = .slice el := by exact rfl) (hte : L.look el = some te := by exact rfl) (hsz : te.size = sz := by exact rfl) : LO P F ⟨d, .indexAddr t x y, ty, pos, aft, g⟩ ρ hp K := by
  refine LO.same (fun M e w he hh => ?_) h
  have h1 := he x (by first | (simp [Op.operands]; done) | simp [Op.operands, Call.operands])
  rw [hx] at h1
  simp only [RA] at h1
  obtain ⟨ad, c, rfl⟩ := hv
  have h2 := he y (by first | (simp [Op.operands]; done) | simp [Op.operands, Call.operands])
  rw [hy] at h2
  simp only [RA, RT] at h2
  refine ⟨.pointer (some (Addr.add ad (j * sz))), ?_, by simp only [RA]; exact ⟨_, _, _, rfl, rfl⟩⟩
  subst hz
  simp [execOp, Instr.indexAt, h1.1, h2, asIntOf, run_underlying (hL.slice ht hd), hL.sizeOf hte, hsz, hj]
end
end Go.Proofs.YthloejmmgdjimaaDoor
namespace Go.Proofs.YthloejmmgdjimaaDoor
open Go.RowKit
section
variable {P : Program} {F : Frm} {L : Tab} {d : Option Tmp} {ty : TypeId} {pos : String} {aft : Array Edge} {g : Option (Nat × Bool)} {ρ : Operand → AV} {hp : List Blk} {K : AV → List Blk → Prop}
theorem lo_eqbr {t t' : TypeId} {x y : Operand} {a b r : Bool} (hr : decide (a = b) = r) (h : K (.c (.lit (.bool r))) hp) (hx : ρ x = .c (.lit (.bool a)) := by exact rfl) (hy : ρ y = .c (.lit (.bool b)) := by exact rfl) (hu : isBool P t = true := by kernel_rfl) : LO P F ⟨d, .binOp .eql t x y t', ty, pos, aft, g⟩ ρ hp K :=
  zB5 (hr ▸ h) hx hy hu
end
end Go.Proofs.YthloejmmgdjimaaDoor
namespace Go.Proofs.YthloejmmgdjimaaDoor
open Go.RowKit
section
variable {P : Program} {F : Frm} {L : Tab} {d : Option Tmp} {ty : TypeId} {pos : String} {aft : Array Edge} {g : Option (Nat × Bool)} {ρ : Operand → AV} {hp : List Blk} {K : AV → List Blk → Prop}
theorem lo_ins {xT : TypeId} {x y z : Operand} (h : LO P F ⟨d, .mapUpdate xT x y z, ty, pos, aft, g⟩ ρ hp K) : LO P F ⟨d, .insert xT x y z, ty, pos, aft, g⟩ ρ hp K :=
  ⟨fun M e w he hh => h.out M e w he hh⟩
variable {kT eT xT : TypeId} {x y z : Operand} {i b : Nat}
theorem zIni (kT eT : TypeId) {s : Int} {l : List (Int × T)} {t : T} {hp' : List Blk} (h : K (.c (.lit undef)) hp') (hu : isMap P xT = some (kT, eT) := by kernel_rfl) (hk : P.underlying kT = some (.int .i64) := by kernel_rfl) (hx : ρ x = .own i (.map (some b)) := by exact rfl) (hi : hp[i]? = some (.mp b (mkeys (Value.int .i64) l)) := by exact rfl) (hy : ρ y = .c (.lit (.int .i64 s)) := by exact rfl) (hv : ρ z = .c t := by exact rfl) (hf : evl (hp.set i (.mp b (mkeys (Value.int .i64) (mput s t l)))) = some hp' := by exact rfl) :
    LO P F ⟨d, .insert xT x y z, ty, pos, aft, g⟩ ρ hp K := lo_ins (zUpi kT eT h hu hk hx hi hy hv hf)
end
theorem heap_pick {F : Frm} {M : Mm} {hp hs : List Blk} {w : World} {sel : List Nat} (h : HeapOk F M hp w) (hs' : selB hp sel = some hs) (hf : freshB sel = true) : HeapOk F M hs w := by
  refine ⟨h.mem, h.ext, h.frm, fun i x hx => ?_, fun i j x y b hx hy hxb hyb => ?_, fun i x b hx hxb => ?_⟩
  · obtain ⟨j, _, h2⟩ := selB_get hs' hx
    exact h.at_ j x h2
  · obtain ⟨k, h1, h2⟩ := selB_get hs' hx
    obtain ⟨k', h3, h4⟩ := selB_get hs' hy
    have := h.sep k k' x y b h2 h4 hxb hyb
    subst this
    exact freshB_inj hf h1 h3
  · obtain ⟨j, _, h2⟩ := selB_get hs' hx
    exact h.out j x b h2 hxb
section
variable {P : Program} {F : Frm} {τ : Nat → AV} {hp hs : List Blk} {N : Nat} {Q : Exit → AS → Prop}
theorem wk_pick (sel : List Nat) (hs' : selB hp sel = some hs) (hf : freshB sel = true) : Wk F ⟨τ, hp, N⟩ ⟨τ, hs, N⟩ := by
  intro M a w hr
  exact ⟨M, hr.tmps, hr.size, hr.defers, heap_pick hr.heap hs' hf⟩
end
end Go.Proofs.YthloejmmgdjimaaDoor
namespace Go.Proofs.YthloejmmgdjimaaDoor
open Go.RowKit
section
variable {P : Program} {F : Frm} {L : Tab} {d : Option Tmp} {ty : TypeId} {pos : String} {aft : Array Edge} {g : Option (Nat × Bool)} {ρ : Operand → AV} {hp : List Blk} {K : AV → List Blk → Prop}
theorem lo_idx_box (hL : TabOk P L) {t el : TypeId} {ti te : TI} {x y : Operand} {i b off n : Nat} {k : IntKind} {z : Int} (j : Nat) (hx : ρ x = .ptr i b off) (hy : ρ y = .c (.lit (.int k z))) (hz : z = (j : Int)) (hj : j < n) (ht : L.look t = some ti) (hd : ti.d = .array n el) (hte : L.look el = some te) (h : K (.ptr i b (off + j * te.size)) hp) : LO P F ⟨d, .indexAddr t x y, ty, pos, aft, g⟩ ρ hp K := by
  refine LO.same (fun M e w he hh => ?_) h
  have h1 := he x (by first | (simp [Op.operands]; done) | simp [Op.operands, Call.operands])
  rw [hx] at h1
  simp only [RA] at h1
  have h2 := he y (by first | (simp [Op.operands]; done) | simp [Op.operands, Call.operands])
  rw [hy] at h2
  simp only [RA, RT] at h2
  refine ⟨.pointer (some ⟨b, off + j * te.size, none⟩), ?_, by simp only [RA]⟩
  subst hz
  simp [execOp, Instr.indexAt, h1, h2, asIntOf, run_underlying (hL.array ht hd), hL.sizeOf hte, hj, Instr.sureAddr, offs_add]
theorem lo_idx_pin (hL : TabOk P L) {t el : TypeId} {ti te : TI} {x y : Operand} {cs : List T} {off n : Nat} {k : IntKind} {z : Int} (j : Nat) (hx : ρ x = .c (.pin cs off)) (hy : ρ y = .c (.lit (.int k z))) (hz : z = (j : Int)) (hj : j < n) (ht : L.look t = some ti) (hd : ti.d = .array n el) (hte : L.look el = some te) (h : K (.c (.pin cs (off + j * te.size))) hp) : LO P F ⟨d, .indexAddr t x y, ty, pos, aft, g⟩ ρ hp K := by
  refine LO.same (fun M e w he hh => ?_) h
  have h1 := he x (by first | (simp [Op.operands]; done) | simp [Op.operands, Call.operands])
  rw [hx] at h1
  simp only [RA, RT] at h1
  obtain ⟨ad, xs, h1, h3, h4⟩ := h1
  have h2 := he y (by first | (simp [Op.operands]; done) | simp [Op.operands, Call.operands])
  rw [hy] at h2
  simp only [RA, RT] at h2
  refine ⟨.pointer (some (ad.add (off + j * te.size))), ?_, by simp only [RA, RT]; exact ⟨ad, xs, rfl, h3, h4⟩⟩
  subst hz
  simp [execOp, Instr.indexAt, h1, h2, asIntOf, run_underlying (hL.array ht hd), hL.sizeOf hte, hj, Instr.sureAddr, add_add']
theorem zIxb {t el : TypeId} {ti te : TI} {x y : Operand} {i b off n : Nat} {k : IntKind} {z : Int} (j : Nat) (h : K (.ptr i b (off + j * te.size)) hp) (hz : z = (j : Int) := by exact rfl) (hL : TabOk P L := by exact tok) (hx : ρ x = .ptr i b off := by exact rfl) (hy : ρ y = .c (.lit (.int k z)) := by exact rfl) (ht : L.look t = some ti := by exact rfl) (hd : ti.d = .array n el := by exact rfl) (hj : Nat.blt j n = true := by exact rfl) (hte : L.look el = some te := by exact rfl) : LO P F ⟨d, .indexAddr t x y, ty, pos, aft, g⟩ ρ hp K :=
  lo_idx_box hL j hx hy hz (Nat.le_of_ble_eq_true hj) ht hd hte h
theorem zIxn {t el : TypeId} {ti te : TI} {x y : Operand} {cs : List T} {off n : Nat} {k : IntKind} {z : Int} (j : Nat) (h : K (.c (.pin cs (off + j * te.size))) hp) (hz : z = (j : Int) := by exact rfl) (hL : TabOk P L := by exact tok) (hx : ρ x = .c (.pin cs off) := by exact rfl) (hy : ρ y = .c (.lit (.int k z)) := by exact rfl) (ht : L.look t = some ti := by exact rfl) (hd : ti.d = .array n el := by exact rfl) (hj : Nat.blt j n = true := by exact rfl) (hte : L.look el = some te := by exact rfl) : LO P F ⟨d, .indexAddr t x y, ty, pos, aft, g⟩ ρ hp K :=
  lo_idx_pin hL j hx hy hz (Nat.le_of_ble_eq_true hj) ht hd hte h
end
end Go.Proofs.YthloejmmgdjimaaDoor
namespace Go.Proofs.YthloejmmgdjimaaDoor
open Go.RowKit
theorem RTs.erase {M : Mm} : ∀ {ts : List T} {xs : List Value} (j : Nat), RTs M ts xs → RTs M (ts.eraseIdx j) (xs.eraseIdx j)
  | [], _, j, h => by simp only [RTs] at h; subst h; simp [RTs]
  | t :: ts, _, 0, h => by
    simp only [RTs] at h
    obtain ⟨x, r, rfl, h1, h2⟩ := h
    simpa using h2
  | t :: ts, _, j + 1, h => by
    simp only [RTs] at h
    obtain ⟨x, r, rfl, h1, h2⟩ := h
    simp only [List.eraseIdx_cons_succ, RTs]
    exact ⟨x, _, rfl, h1, RTs.erase j h2⟩
end Go.Proofs.YthloejmmgdjimaaDoor
namespace Go.Proofs.YthloejmmgdjimaaDoor
open Go.RowKit
def Dj (x y : Blk) : Prop := ∀ b, x.blk = some b → y.blk ≠ some b
theorem Dj.symm {x y : Blk} (h : Dj x y) : Dj y x := fun b h1 h2 => h b h2 h1
structure HpOk (F : Frm) (M : Mm) (hp : List Blk) (w : World) : Prop where
  mem : MemOk M w
  ext : Ext F.may F.M0 M
  frm : Keeps F w
  at_ : ∀ x ∈ hp, BlkOk M w x
  sep : hp.Pairwise Dj
  out : ∀ x ∈ hp, ∀ b, x.blk = some b → F.may b ∧ ∀ p : Addr, p.block = b → M p = none
section
variable {F : Frm} {M : Mm} {hp hp' : List Blk} {w : World}
theorem HeapOk.all (h : HeapOk F M hp w) : HpOk F M hp w := by
  refine ⟨h.mem, h.ext, h.frm, fun x hx => ?_, ?_, fun x hx b hb => ?_⟩
  · obtain ⟨i, hi⟩ := List.getElem?_of_mem hx
    exact h.at_ i x hi
  · rw [List.pairwise_iff_getElem]
    intro i j hi hj hij b h1 h2
    have := h.sep i j _ _ b (List.getElem?_eq_getElem hi) (List.getElem?_eq_getElem hj) h1 h2
    omega
  · obtain ⟨i, hi⟩ := List.getElem?_of_mem hx
    exact h.out i x b hi hb
theorem HpOk.heap (h : HpOk F M hp w) : HeapOk F M hp w := by
  have hs := List.pairwise_iff_getElem.1 h.sep
  refine ⟨h.mem, h.ext, h.frm, fun i x hi => h.at_ x (List.mem_of_getElem? hi), fun i j x y b hi hj hx hy => ?_, fun i x b hi hb => h.out x (List.mem_of_getElem? hi) b hb⟩
  obtain ⟨hi', rfl⟩ := List.getElem?_eq_some_iff.1 hi
  obtain ⟨hj', rfl⟩ := List.getElem?_eq_some_iff.1 hj
  rcases Nat.lt_trichotomy i j with hlt | rfl | hlt
  · exact absurd hy (hs i j hi' hj' hlt b hx)
  · rfl
  · exact absurd hx (hs j i hj' hi' hlt b hy)
theorem HeapOk.perm (h : HeapOk F M hp w) (hq : hp.Perm hp') : HeapOk F M hp' w :=
  let h := h.all
  HpOk.heap ⟨h.mem, h.ext, h.frm, fun x hx => h.at_ x (hq.mem_iff.2 hx), (hq.pairwise_iff (fun h => Dj.symm h)).1 h.sep, fun x hx => h.out x (hq.mem_iff.2 hx)⟩
theorem wk_perm {τ : Nat → AV} {N : Nat} (hq : hp.Perm hp') : Wk F ⟨τ, hp, N⟩ ⟨τ, hp', N⟩ := fun M _ _ hr => ⟨M, hr.tmps, hr.size, hr.defers, hr.heap.perm hq⟩
end
section
variable {P : Program} {F : Frm} {Q : Exit → AS → Prop} {τ : Nat → AV} {hp hp' : List Blk} {N : Nat}
theorem x_perm {c : Go.Code} (hq : hp.Perm hp') (h : AC P F c Q ⟨τ, hp', N⟩) : AC P F c Q ⟨τ, hp, N⟩ := ac_wk (wk_perm hq) h
theorem x_eq {c : Go.Code} (hq : hp = hp') (h : AC P F c Q ⟨τ, hp', N⟩) : AC P F c Q ⟨τ, hp, N⟩ := by subst hq; exact h
/-- what a variable holds, said otherwise -/
theorem wk_boxR (i : Nat) {b : Nat} {t : TypeId} {cs : List AV} (cs' : List AV) (hi : hp[i]? = some (.box b t cs)) (hz : Res cs cs') : Wk F ⟨τ, hp, N⟩ ⟨τ, hp.set i (.box b t cs'), N⟩ := by
  intro M a w hr
  refine ⟨M, hr.tmps, hr.size, hr.defers, hr.heap.step i rfl rfl rfl (Nat.le_refl _) (fun _ _ _ => rfl) (Ext.refl _ _) (fun p v h1 h2 => by rw [h2] at h1; cases h1) (fun j hj => by rw [List.getElem?_set_ne (Ne.symm hj)]) (fun x' hx' => ?_)⟩
  have hlt : i < hp.length := (List.getElem?_eq_some_iff.1 hi).1
  rw [List.getElem?_set_self hlt] at hx'
  obtain rfl : Blk.box b t cs' = x' := by injection hx'
  obtain ⟨xs, h1, h2, h3⟩ := hr.heap.at_ i _ hi
  exact ⟨⟨xs, h1, hz _ _ h2, h3⟩, fun b' hb' => .inl ⟨_, hi, hb'⟩⟩
end
/-- a variable that nothing writes any more becomes closed memory, also beside blocks that were handed in -/
theorem wk_frzq {F : Frm} {τ : Nat → AV} {hp : List Blk} {N : Nat} (s : Nat) (ts : List T) {i b off : Nat} {t : TypeId} {cs : List AV} {hp' : List Blk} (hs : τ s = .ptr i b off) (hi : hp[i]? = some (.box b t cs)) (hz : Rzs [] cs ts) (hf : evl (hp.set i .dead) = some hp') (hN : Nat.blt s N = true) : Wk F ⟨τ, hp, N⟩ ⟨upd N s (.c (.pin ts off)) τ, hp', N⟩ := by
  intro M a w hr
  have h1 := heap_frzG hr.heap hi
  rw [← evl_eq hf] at h1
  obtain ⟨xs, hh, hx, hone⟩ := hr.heap.at_ i _ hi
  have h2 : RT (frB M (Blk.box b t cs).blk w) (.pin ts off) (.pointer (some ⟨b, off, none⟩)) := by
    simp only [RT]
    refine ⟨⟨b, 0, none⟩, xs, by unfold Addr.add; split <;> simp_all, fun j x hj => ?_, RTs.mono (frB_sub _ _ _) _ _ (cls_sound cs ts xs hz hx)⟩
    have hadd : (⟨b, 0, none⟩ : Addr).add j = ⟨b, j, none⟩ := by unfold Addr.add; split <;> simp_all
    rw [hadd]
    have hn : M ⟨b, j, none⟩ = none := (hr.heap.out i _ b hi rfl).2 _ rfl
    have hc : w.cell? ⟨b, j, none⟩ = some x := by rw [cell_of_row _ b j _ _ _ hh]; simpa using hj
    simp [frB, hn, Blk.blk, hc, hone x (List.mem_of_getElem? hj)]
  refine ⟨_, fun k => ?_, hr.size, hr.defers, h1⟩
  simp only [upd]
  cases hc : Nat.beq k s with
  | false => simp only [Bool.false_and, cond_false]; exact RA.mono (frB_sub _ _ _) _ _ (hr.tmps k)
  | true =>
    have := Nat.eq_of_beq_eq_true hc
    subst this
    have h3 : RA M (τ k) (a.tmps.getD k undef) := hr.tmps k
    rw [hs] at h3
    simp only [RA] at h3
    rw [hN]
    simp only [Bool.and_self, cond_true, RA]
    rw [h3]; exact h2
theorem wk_frzqS {F : Frm} {τ : Nat → AV} {hp : List Blk} {N : Nat} (s : Nat) (ts : List T) {i j b off : Nat} {t : TypeId} {cs : List AV} (hs : τ s = .ptr j b off) (hi : hp[i]? = some (.box b t cs)) (hz : Rzs [] cs ts) (hN : Nat.blt s N = true) : Wk F ⟨τ, hp, N⟩ ⟨upd N s (.c (.pin ts off)) τ, hp.set i .dead, N⟩ := by
  intro M a w hr
  have h1 := heap_frzG hr.heap hi
  obtain ⟨xs, hh, hx, hone⟩ := hr.heap.at_ i _ hi
  have h2 : RT (frB M (Blk.box b t cs).blk w) (.pin ts off) (.pointer (some ⟨b, off, none⟩)) := by
    simp only [RT]
    refine ⟨⟨b, 0, none⟩, xs, by unfold Addr.add; split <;> simp_all, fun j x hj => ?_, RTs.mono (frB_sub _ _ _) _ _ (cls_sound cs ts xs hz hx)⟩
    have hadd : (⟨b, 0, none⟩ : Addr).add j = ⟨b, j, none⟩ := by unfold Addr.add; split <;> simp_all
    rw [hadd]
    have hn : M ⟨b, j, none⟩ = none := (hr.heap.out i _ b hi rfl).2 _ rfl
    have hc : w.cell? ⟨b, j, none⟩ = some x := by rw [cell_of_row _ b j _ _ _ hh]; simpa using hj
    simp [frB, hn, Blk.blk, hc, hone x (List.mem_of_getElem? hj)]
  refine ⟨_, fun k => ?_, hr.size, hr.defers, h1⟩
  simp only [upd]
  cases hc : Nat.beq k s with
  | false => simp only [Bool.false_and, cond_false]; exact RA.mono (frB_sub _ _ _) _ _ (hr.tmps k)
  | true =>
    have := Nat.eq_of_beq_eq_true hc
    subst this
    have h3 : RA M (τ k) (a.tmps.getD k undef) := hr.tmps k
    rw [hs] at h3
    simp only [RA] at h3
    rw [hN]
    simp only [Bool.and_self, cond_true, RA]
    rw [h3]; exact h2
/-- a variable at the head of the blocks becomes closed memory -/
theorem x_frz0 {F : Frm} {P : Program} {Q : Exit → AS → Prop} {c : Go.Code} {τ : Nat → AV} {hp : List Blk} {N : Nat} (s : Nat) (ts : List T) {i b off : Nat} {t : TypeId} {cs : List AV} (h : AC P F c Q ⟨upd N s (.c (.pin ts off)) τ, hp, N⟩) (hs : τ s = .ptr i b off := by exact rfl) (hz : Rzs [] cs ts := by repeat (first | exact rzs_nil | apply rzs_cons | exact rz_c | exact rz_nil rfl | apply rz_agg | exact rz_own rfl | apply rz_fn | exact rz_ptr rfl | apply rz_tup)) (hN : Nat.blt s N = true := by exact rfl) : AC P F c Q ⟨τ, .box b t cs :: hp, N⟩ := by
  refine ac_wk (wk_frzqS (i := 0) s ts hs rfl hz hN) ?_
  show AC P F c Q ⟨_, .dead :: hp, N⟩
  refine x_perm (hp' := hp ++ [Blk.dead]) (List.perm_append_comm (l₁ := [Blk.dead])) ?_
  refine ac_wk (wk_drop hp.length) ?_
  rw [show (hp ++ [Blk.dead]).take hp.length = hp from List.take_left]
  exact h
end Go.Proofs.YthloejmmgdjimaaDoor
namespace Go.Proofs.YthloejmmgdjimaaDoor
open Go.RowKit
def pairV {α : Type} (f : α → Value) (p : α × α) : Value := .agg #[f p.1, f p.2]
def isI64 (P : Program) (e : TypeId) : Bool := match P.underlying e with | some (.int .i64) => P.cellsOf e == 1 | _ => false
def isArr2 (P : Program) (t : TypeId) : Option TypeId := match P.underlying t with | some (.array 2 e) => some e | _ => none
/-- what a cell's type must bring -/
structure CellK {α : Type} [DecidableEq α] (P : Program) (e : TypeId) (f : α → Value) : Prop where
  plain : P.plainKey e = true
  cells : P.cellsOf e = 1
  eq : ∀ (d : Nat) (w : World) (a b : α), (Op.equalIn (d + 1) e (f a) (f b)).run P w = .ok (decide (a = b)) w
  ck : ∀ (em : Bool) (d : Nat) (w : World) (a : α), (Instr.checkKey em (d + 1) e (f a)).run P w = .ok () w
  bits : ∀ (d : Nat) (a : α), Instr.sameBits d (f a) (f a) = true
theorem cellI {P : Program} {e : TypeId} (h : isI64 P e = true) : CellK P e (Value.int .i64) := by
  unfold isI64 at h
  split at h
  · rename_i he
    have hc : P.cellsOf e = 1 := by simpa using h
    refine ⟨by simp [Program.plainKey, he], hc, fun d w a b => ?_, fun em d w a => ?_, fun d a => ?_⟩
    · simp only [Op.equalIn, Sem.run_bind, run_underlying he, Result.andThen_ok, if_true, Sem.run_pure]
      rfl
    · simp [Instr.checkKey, run_underlying he]
    · cases d <;> simp [Instr.sameBits]
  · cases h
theorem kv_c {α : Type} {M : Mm} {f : α → Value} {p : α × α} {u : Value} (h : RA M (.c (.agg [.lit (f p.1), .lit (f p.2)])) u) : u = pairV f p := by
  simp only [RA, RT, RTs] at h
  obtain ⟨xs, rfl, _, _, rfl, rfl, _, _, rfl, rfl, rfl⟩ := h
  rfl
theorem kv_a {α : Type} {M : Mm} {f : α → Value} {p : α × α} {u : Value} (h : RA M (.agg [.c (.lit (f p.1)), .c (.lit (f p.2))]) u) : u = pairV f p := by
  simp only [RA, RAs, RT] at h
  obtain ⟨xs, rfl, _, _, rfl, rfl, _, _, rfl, rfl, rfl⟩ := h
  rfl
theorem kv_l {M : Mm} {v u : Value} (h : RA M (.c (.lit v)) u) : u = v := by simpa only [RA, RT] using h
end Go.Proofs.YthloejmmgdjimaaDoor
namespace Go.Proofs.YthloejmmgdjimaaDoor
open Go.RowKit
def intTs (i : Int) : List T := [.lit (.int .i64 i)]
def intRow (l : List Int) : T := .row l.length 1 (l.flatMap intTs)
theorem int_at {l : List Int} {k : Nat} {i : Int} (h : l[k]? = some i) : (l.flatMap intTs)[k * 1]? = some (.lit (.int .i64 i)) := flat_get intTs 1 (fun _ => rfl) h (j := 0) (by omega)
end Go.Proofs.YthloejmmgdjimaaDoor
