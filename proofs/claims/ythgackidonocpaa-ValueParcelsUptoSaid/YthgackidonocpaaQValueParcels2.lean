/-
  Texts of this proof, part 2: Ab19 Ab26 Ab20 Ab21 Ab22 Ab23 Tab Tuv Tv Tvp Tsm Tpb Tpr Twi Tap Tck Ttk Trt5 Ab24 Trd Ttw Ab25.
-/
import Derived.Test.YthgackidonocpaaQValueParcels1
import Derived.Lib.AppendStr
import Derived.MapKept
import Derived.Test.YthgackidonocpaaProg
namespace Go.Proofs.Ythgackidonocpaa
open Go.RowKit
section
variable {P : Program} {F : Frm} {L : Tab} {d : Option Tmp} {ty : TypeId} {pos : String} {aft : Array Edge} {g : Option (Nat × Bool)} {ρ : Operand → AV} {hp : List Blk} {K : AV → List Blk → Prop}
theorem lo_box_frz {t : TypeId} {x : Operand} {v : AV} {ts : List T} (hv : ρ x = v) (h1 : allOne (cellsA v) = true) (hz : Rzs [] (cellsA v) ts) (h : K (.c (.pin ts 0)) hp) : LO P F ⟨d, .box t x, ty, pos, aft, g⟩ ρ hp K := by
  refine ⟨fun M e w he hh => ?_⟩
  have hx := he x (by first | (simp [Op.operands]; done) | simp [Op.operands, Call.operands])
  rw [hv] at hx
  obtain ⟨hc, ho⟩ := cells_of hx h1
  have : (execOp e ⟨d, .box t x, ty, pos, aft, g⟩).run P w = .ok (.value (.pointer (some ⟨w.heap.size, 0, none⟩))) (w.alloc (.cells (e x).cells t)) := by
    simp [execOp, Instr.box, newVar, newRow]
  rw [this]
  have hyt := cls_sound _ _ _ hz hc
  have hb : Below w.heap.size w (w.alloc (.cells (e x).cells t)) := (Below.refl _ _).alloc (Nat.le_refl _) _
  have hm0 := hh.mem.below hb
  have hM := frz_ext (M := M) w.heap.size (w.alloc (.cells (e x).cells t))
  refine ⟨frz M w.heap.size (w.alloc (.cells (e x).cells t)), _, hp, h, (hM.low hh.frm.size), hh.below hb hM (frz_ok hm0 _), ?_⟩
  simp only [RA, RT]
  refine ⟨⟨w.heap.size, 0, none⟩, (e x).cells.toList, by rw [box_add], fun j u hj => ?_, RTs.mono hM.sub _ _ hyt⟩
  have hadd : (⟨w.heap.size, 0, none⟩ : Addr).add j = ⟨w.heap.size, j, none⟩ := by rw [box_add]; simp
  rw [hadd]
  refine frz_new (mem_fresh hh.mem (Nat.le_refl _)) (Nat.le_refl _) ?_ (ho u (List.mem_of_getElem? hj))
  rw [World.cell?_alloc_new]
  simpa using hj
theorem zBf {t : TypeId} {x : Operand} {v : AV} {cs : List AV} {ts : List T} (h : K (.c (.pin ts 0)) hp) (hv : fc (ρ x) = some v := by exact rfl) (hc : evl (cellsA v) = some cs := by exact rfl) (h1 : allOne cs = true := by first | exact rfl | assumption) (hz : Rzs [] cs ts := by repeat (first | exact rzs_nil | apply rzs_cons | exact rz_c | exact rz_nil rfl | apply rz_agg | apply rz_fn | apply rz_tup)) : LO P F ⟨d, .box t x, ty, pos, aft, g⟩ ρ hp K :=
  lo_box_frz (fc_eq hv) (by rw [← evl_eq hc]; exact h1) (by rw [← evl_eq hc]; exact hz) h
end
end Go.Proofs.Ythgackidonocpaa
namespace Go.Proofs.Ythgackidonocpaa
open Go.RowKit
structure Hold (G : Prop) : Prop where
  out : G
/-- operations and control, asq far asq they are plain -/
theorem gG {G G' : Prop} (h : G') (e : Hold G' → G := by
    intro h
    first | refine zNil ?_ | refine zOp ?_ | refine zOpn ?_ | refine zNo ?_ | refine zNon ?_ | refine zUn ?_ | refine zUnn ?_ | refine zYes ?_ | refine zYesn ?_ | (refine zkL ?_; first | refine zL1 ?_ | refine zL2 ?_ | refine zL3 ?_ | refine zLp ?_) | refine zM ?_ | (refine zkF ?_; first | refine zF1 ?_ | refine zF2 ?_ | refine zF3 ?_) | refine zA ?_ | (refine zkB ?_; first | refine zC5 ?_ | refine zC6 ?_ | refine zC1 ?_ | refine zC2 ?_ | refine zC3 ?_ | refine zC4 ?_ | refine zS5 ?_ | refine zS6 ?_ | refine zS1 ?_ | refine zS2 ?_ | refine zS3 ?_ | refine zS4 ?_ | refine zInc ?_ | refine zQ1 ?_ | refine zQ2 ?_ | refine zQ3 ?_ | refine zQ4 ?_ | refine zQ5 ?_ | refine zQ6 ?_) | (refine zkI ?_; first | refine zN3 ?_ | refine zN4 ?_) | refine zS ?_ | refine zPt ?_ | refine zPf ?_ | refine zE ?_ | refine zEA ?_ | refine zNot ?_ | refine zBd ?_ | refine zFn ?_ | refine zK1 ?_ | refine zK2 ?_ | refine zBs ?_ | refine ac_seq ?_ | refine ac_block ?_ | refine ac_region ?_ | refine ac_skip ?_ | refine ac_exit ?_ | refine ac_ret ?_ | refine zT ?_ | refine zF ?_
    repeat (first | refine zNil ?_ | refine zOp ?_ | refine zOpn ?_ | refine zNo ?_ | refine zNon ?_ | refine zUn ?_ | refine zUnn ?_ | refine zYes ?_ | refine zYesn ?_ | (refine zkL ?_; first | refine zL1 ?_ | refine zL2 ?_ | refine zL3 ?_ | refine zLp ?_) | refine zM ?_ | (refine zkF ?_; first | refine zF1 ?_ | refine zF2 ?_ | refine zF3 ?_) | refine zA ?_ | (refine zkB ?_; first | refine zC5 ?_ | refine zC6 ?_ | refine zC1 ?_ | refine zC2 ?_ | refine zC3 ?_ | refine zC4 ?_ | refine zS5 ?_ | refine zS6 ?_ | refine zS1 ?_ | refine zS2 ?_ | refine zS3 ?_ | refine zS4 ?_ | refine zInc ?_ | refine zQ1 ?_ | refine zQ2 ?_ | refine zQ3 ?_ | refine zQ4 ?_ | refine zQ5 ?_ | refine zQ6 ?_) | (refine zkI ?_; first | refine zN3 ?_ | refine zN4 ?_) | refine zS ?_ | refine zPt ?_ | refine zPf ?_ | refine zE ?_ | refine zEA ?_ | refine zNot ?_ | refine zBd ?_ | refine zFn ?_ | refine zK1 ?_ | refine zK2 ?_ | refine zBs ?_ | refine ac_seq ?_ | refine ac_block ?_ | refine ac_region ?_ | refine ac_skip ?_ | refine ac_exit ?_ | refine ac_ret ?_ | refine zT ?_ | refine zF ?_)
    exact h.out) : G := e ⟨h⟩
/-- the same, but no rows that are written out -/
theorem gX {G G' : Prop} (h : G') (e : Hold G' → G := by
    intro h
    first | refine zNil ?_ | refine zOp ?_ | refine zOpn ?_ | refine zNo ?_ | refine zNon ?_ | refine zUn ?_ | refine zUnn ?_ | refine zYes ?_ | refine zYesn ?_ | (refine zkL ?_; first | refine zL1 ?_ | refine zL2 ?_ | refine zL3 ?_ | refine zLp ?_) | refine zM ?_ | (refine zkF ?_; first | refine zF1 ?_ | refine zF2 ?_ | refine zF3 ?_) | refine zA ?_ | (refine zkB ?_; first | refine zC5 ?_ | refine zC6 ?_ | refine zC1 ?_ | refine zC2 ?_ | refine zC3 ?_ | refine zC4 ?_ | refine zS5 ?_ | refine zS6 ?_ | refine zS1 ?_ | refine zS2 ?_ | refine zS3 ?_ | refine zS4 ?_ | refine zInc ?_ | refine zQ1 ?_ | refine zQ2 ?_ | refine zQ3 ?_ | refine zQ4 ?_ | refine zQ5 ?_ | refine zQ6 ?_) | (refine zkI ?_; first | refine zN3 ?_ | refine zN4 ?_) | refine zS ?_ | refine zPt ?_ | refine zPf ?_ | refine zE ?_ | refine zEA ?_ | refine zNot ?_ | refine zBd ?_ | refine zFn ?_ | refine zK1 ?_ | refine zK2 ?_ | refine ac_seq ?_ | refine ac_block ?_ | refine ac_region ?_ | refine ac_skip ?_ | refine ac_exit ?_ | refine ac_ret ?_ | refine zT ?_ | refine zF ?_
    repeat (first | refine zNil ?_ | refine zOp ?_ | refine zOpn ?_ | refine zNo ?_ | refine zNon ?_ | refine zUn ?_ | refine zUnn ?_ | refine zYes ?_ | refine zYesn ?_ | (refine zkL ?_; first | refine zL1 ?_ | refine zL2 ?_ | refine zL3 ?_ | refine zLp ?_) | refine zM ?_ | (refine zkF ?_; first | refine zF1 ?_ | refine zF2 ?_ | refine zF3 ?_) | refine zA ?_ | (refine zkB ?_; first | refine zC5 ?_ | refine zC6 ?_ | refine zC1 ?_ | refine zC2 ?_ | refine zC3 ?_ | refine zC4 ?_ | refine zS5 ?_ | refine zS6 ?_ | refine zS1 ?_ | refine zS2 ?_ | refine zS3 ?_ | refine zS4 ?_ | refine zInc ?_ | refine zQ1 ?_ | refine zQ2 ?_ | refine zQ3 ?_ | refine zQ4 ?_ | refine zQ5 ?_ | refine zQ6 ?_) | (refine zkI ?_; first | refine zN3 ?_ | refine zN4 ?_) | refine zS ?_ | refine zPt ?_ | refine zPf ?_ | refine zE ?_ | refine zEA ?_ | refine zNot ?_ | refine zBd ?_ | refine zFn ?_ | refine zK1 ?_ | refine zK2 ?_ | refine ac_seq ?_ | refine ac_block ?_ | refine ac_region ?_ | refine ac_skip ?_ | refine ac_exit ?_ | refine ac_ret ?_ | refine zT ?_ | refine zF ?_)
    exact h.out) : G := e ⟨h⟩
/-- operations alone -/
theorem gO {G G' : Prop} (h : G') (e : Hold G' → G := by
    intro h
    first | refine zNil ?_ | refine zOp ?_ | refine zOpn ?_ | refine zNo ?_ | refine zNon ?_ | refine zUn ?_ | refine zUnn ?_ | refine zYes ?_ | refine zYesn ?_ | (refine zkL ?_; first | refine zL1 ?_ | refine zL2 ?_ | refine zL3 ?_ | refine zLp ?_) | refine zM ?_ | (refine zkF ?_; first | refine zF1 ?_ | refine zF2 ?_ | refine zF3 ?_) | refine zA ?_ | (refine zkB ?_; first | refine zC5 ?_ | refine zC6 ?_ | refine zC1 ?_ | refine zC2 ?_ | refine zC3 ?_ | refine zC4 ?_ | refine zS5 ?_ | refine zS6 ?_ | refine zS1 ?_ | refine zS2 ?_ | refine zS3 ?_ | refine zS4 ?_ | refine zInc ?_ | refine zQ1 ?_ | refine zQ2 ?_ | refine zQ3 ?_ | refine zQ4 ?_ | refine zQ5 ?_ | refine zQ6 ?_) | (refine zkI ?_; first | refine zN3 ?_ | refine zN4 ?_) | refine zS ?_ | refine zPt ?_ | refine zPf ?_ | refine zE ?_ | refine zEA ?_ | refine zNot ?_ | refine zBd ?_ | refine zFn ?_ | refine zK1 ?_ | refine zK2 ?_ | refine zBs ?_
    repeat (first | refine zNil ?_ | refine zOp ?_ | refine zOpn ?_ | refine zNo ?_ | refine zNon ?_ | refine zUn ?_ | refine zUnn ?_ | refine zYes ?_ | refine zYesn ?_ | (refine zkL ?_; first | refine zL1 ?_ | refine zL2 ?_ | refine zL3 ?_ | refine zLp ?_) | refine zM ?_ | (refine zkF ?_; first | refine zF1 ?_ | refine zF2 ?_ | refine zF3 ?_) | refine zA ?_ | (refine zkB ?_; first | refine zC5 ?_ | refine zC6 ?_ | refine zC1 ?_ | refine zC2 ?_ | refine zC3 ?_ | refine zC4 ?_ | refine zS5 ?_ | refine zS6 ?_ | refine zS1 ?_ | refine zS2 ?_ | refine zS3 ?_ | refine zS4 ?_ | refine zInc ?_ | refine zQ1 ?_ | refine zQ2 ?_ | refine zQ3 ?_ | refine zQ4 ?_ | refine zQ5 ?_ | refine zQ6 ?_) | (refine zkI ?_; first | refine zN3 ?_ | refine zN4 ?_) | refine zS ?_ | refine zPt ?_ | refine zPf ?_ | refine zE ?_ | refine zEA ?_ | refine zNot ?_ | refine zBd ?_ | refine zFn ?_ | refine zK1 ?_ | refine zK2 ?_ | refine zBs ?_)
    exact h.out) : G := e ⟨h⟩
/-- operations of a region that draws, asq long asq they only look -/
theorem gW {G G' : Prop} (h : G') (e : Hold G' → G := by
    intro h
    first | (apply w_q; (focus exact rfl); (focus exact rfl); focus (intro _; (first | (refine zkL ?_; first | refine zL1 ?_ | refine zL2 ?_ | refine zL3 ?_ | refine zLp ?_) | refine zM ?_ | (refine zkF ?_; first | refine zF1 ?_ | refine zF2 ?_ | refine zF3 ?_) | refine zA ?_ | (refine zkB ?_; first | refine zC5 ?_ | refine zC6 ?_ | refine zC1 ?_ | refine zC2 ?_ | refine zC3 ?_ | refine zC4 ?_ | refine zS5 ?_ | refine zS6 ?_ | refine zS1 ?_ | refine zS2 ?_ | refine zS3 ?_ | refine zS4 ?_ | refine zInc ?_ | refine zQ1 ?_ | refine zQ2 ?_ | refine zQ3 ?_ | refine zQ4 ?_ | refine zQ5 ?_ | refine zQ6 ?_) | (refine zkI ?_; first | refine zN3 ?_ | refine zN4 ?_) | refine zPt ?_ | refine zPf ?_ | refine zE ?_ | refine zEA ?_ | refine zNot ?_ | refine zBd ?_ | refine zBs ?_ | refine zFn ?_ | refine zK1 ?_ | refine zK2 ?_ | (refine zkI ?_; first | refine zN1 (fun _ => ?_) | refine zN2 (fun _ => ?_))); exact det_refl)) | (apply w_p; (focus exact rfl); (focus exact rfl); focus (intro _; (first | (refine zkL ?_; first | refine zL1 ?_ | refine zL2 ?_ | refine zL3 ?_ | refine zLp ?_) | refine zM ?_ | (refine zkF ?_; first | refine zF1 ?_ | refine zF2 ?_ | refine zF3 ?_) | refine zA ?_ | (refine zkB ?_; first | refine zC5 ?_ | refine zC6 ?_ | refine zC1 ?_ | refine zC2 ?_ | refine zC3 ?_ | refine zC4 ?_ | refine zS5 ?_ | refine zS6 ?_ | refine zS1 ?_ | refine zS2 ?_ | refine zS3 ?_ | refine zS4 ?_ | refine zInc ?_ | refine zQ1 ?_ | refine zQ2 ?_ | refine zQ3 ?_ | refine zQ4 ?_ | refine zQ5 ?_ | refine zQ6 ?_) | (refine zkI ?_; first | refine zN3 ?_ | refine zN4 ?_) | refine zPt ?_ | refine zPf ?_ | refine zE ?_ | refine zEA ?_ | refine zNot ?_ | refine zBd ?_ | refine zBs ?_ | refine zFn ?_ | refine zK1 ?_ | refine zK2 ?_ | (refine zkI ?_; first | refine zN1 (fun _ => ?_) | refine zN2 (fun _ => ?_))); exact det_refl)) | (apply w_un; (focus exact rfl); (focus exact rfl); (focus exact rfl); (focus exact rfl)) | (apply w_no; (focus exact rfl); (focus exact rfl); (focus exact rfl); (focus exact rfl); focus (first | rfl | assumption | exact neg_t (by assumption) | exact neg_f (by assumption))) | (apply w_qg; (focus exact rfl); (focus exact rfl); (focus exact rfl); (focus exact rfl); (focus (first | rfl | assumption | exact neg_t (by assumption) | exact neg_f (by assumption))); (focus (intro _; (first | (refine zkL ?_; first | refine zL1 ?_ | refine zL2 ?_ | refine zL3 ?_ | refine zLp ?_) | refine zM ?_ | (refine zkF ?_; first | refine zF1 ?_ | refine zF2 ?_ | refine zF3 ?_) | refine zA ?_ | (refine zkB ?_; first | refine zC5 ?_ | refine zC6 ?_ | refine zC1 ?_ | refine zC2 ?_ | refine zC3 ?_ | refine zC4 ?_ | refine zS5 ?_ | refine zS6 ?_ | refine zS1 ?_ | refine zS2 ?_ | refine zS3 ?_ | refine zS4 ?_ | refine zInc ?_ | refine zQ1 ?_ | refine zQ2 ?_ | refine zQ3 ?_ | refine zQ4 ?_ | refine zQ5 ?_ | refine zQ6 ?_) | (refine zkI ?_; first | refine zN3 ?_ | refine zN4 ?_) | refine zPt ?_ | refine zPf ?_ | refine zE ?_ | refine zEA ?_ | refine zNot ?_ | refine zBd ?_ | refine zBs ?_ | refine zFn ?_ | refine zK1 ?_ | refine zK2 ?_ | (refine zkI ?_; first | refine zN1 (fun _ => ?_) | refine zN2 (fun _ => ?_))); exact det_refl)))
    repeat (first | (apply w_q; (focus exact rfl); (focus exact rfl); focus (intro _; (first | (refine zkL ?_; first | refine zL1 ?_ | refine zL2 ?_ | refine zL3 ?_ | refine zLp ?_) | refine zM ?_ | (refine zkF ?_; first | refine zF1 ?_ | refine zF2 ?_ | refine zF3 ?_) | refine zA ?_ | (refine zkB ?_; first | refine zC5 ?_ | refine zC6 ?_ | refine zC1 ?_ | refine zC2 ?_ | refine zC3 ?_ | refine zC4 ?_ | refine zS5 ?_ | refine zS6 ?_ | refine zS1 ?_ | refine zS2 ?_ | refine zS3 ?_ | refine zS4 ?_ | refine zInc ?_ | refine zQ1 ?_ | refine zQ2 ?_ | refine zQ3 ?_ | refine zQ4 ?_ | refine zQ5 ?_ | refine zQ6 ?_) | (refine zkI ?_; first | refine zN3 ?_ | refine zN4 ?_) | refine zPt ?_ | refine zPf ?_ | refine zE ?_ | refine zEA ?_ | refine zNot ?_ | refine zBd ?_ | refine zBs ?_ | refine zFn ?_ | refine zK1 ?_ | refine zK2 ?_ | (refine zkI ?_; first | refine zN1 (fun _ => ?_) | refine zN2 (fun _ => ?_))); exact det_refl)) | (apply w_p; (focus exact rfl); (focus exact rfl); focus (intro _; (first | (refine zkL ?_; first | refine zL1 ?_ | refine zL2 ?_ | refine zL3 ?_ | refine zLp ?_) | refine zM ?_ | (refine zkF ?_; first | refine zF1 ?_ | refine zF2 ?_ | refine zF3 ?_) | refine zA ?_ | (refine zkB ?_; first | refine zC5 ?_ | refine zC6 ?_ | refine zC1 ?_ | refine zC2 ?_ | refine zC3 ?_ | refine zC4 ?_ | refine zS5 ?_ | refine zS6 ?_ | refine zS1 ?_ | refine zS2 ?_ | refine zS3 ?_ | refine zS4 ?_ | refine zInc ?_ | refine zQ1 ?_ | refine zQ2 ?_ | refine zQ3 ?_ | refine zQ4 ?_ | refine zQ5 ?_ | refine zQ6 ?_) | (refine zkI ?_; first | refine zN3 ?_ | refine zN4 ?_) | refine zPt ?_ | refine zPf ?_ | refine zE ?_ | refine zEA ?_ | refine zNot ?_ | refine zBd ?_ | refine zBs ?_ | refine zFn ?_ | refine zK1 ?_ | refine zK2 ?_ | (refine zkI ?_; first | refine zN1 (fun _ => ?_) | refine zN2 (fun _ => ?_))); exact det_refl)) | (apply w_un; (focus exact rfl); (focus exact rfl); (focus exact rfl); (focus exact rfl)) | (apply w_no; (focus exact rfl); (focus exact rfl); (focus exact rfl); (focus exact rfl); focus (first | rfl | assumption | exact neg_t (by assumption) | exact neg_f (by assumption))) | (apply w_qg; (focus exact rfl); (focus exact rfl); (focus exact rfl); (focus exact rfl); (focus (first | rfl | assumption | exact neg_t (by assumption) | exact neg_f (by assumption))); (focus (intro _; (first | (refine zkL ?_; first | refine zL1 ?_ | refine zL2 ?_ | refine zL3 ?_ | refine zLp ?_) | refine zM ?_ | (refine zkF ?_; first | refine zF1 ?_ | refine zF2 ?_ | refine zF3 ?_) | refine zA ?_ | (refine zkB ?_; first | refine zC5 ?_ | refine zC6 ?_ | refine zC1 ?_ | refine zC2 ?_ | refine zC3 ?_ | refine zC4 ?_ | refine zS5 ?_ | refine zS6 ?_ | refine zS1 ?_ | refine zS2 ?_ | refine zS3 ?_ | refine zS4 ?_ | refine zInc ?_ | refine zQ1 ?_ | refine zQ2 ?_ | refine zQ3 ?_ | refine zQ4 ?_ | refine zQ5 ?_ | refine zQ6 ?_) | (refine zkI ?_; first | refine zN3 ?_ | refine zN4 ?_) | refine zPt ?_ | refine zPf ?_ | refine zE ?_ | refine zEA ?_ | refine zNot ?_ | refine zBd ?_ | refine zBs ?_ | refine zFn ?_ | refine zK1 ?_ | refine zK2 ?_ | (refine zkI ?_; first | refine zN1 (fun _ => ?_) | refine zN2 (fun _ => ?_))); exact det_refl))))
    exact h.out) : G := e ⟨h⟩
end Go.Proofs.Ythgackidonocpaa
namespace Go.Proofs.Ythgackidonocpaa
open Go.RowKit
theorem HeapOk.take {F : Frm} {M : Mm} {hp : List Blk} {w : World} (h : HeapOk F M hp w) (k : Nat) : HeapOk F M (hp.take k) w := by
  have hg : ∀ (i : Nat) (x : Blk), (hp.take k)[i]? = some x → hp[i]? = some x := by
    intro i x hx
    rw [List.getElem?_take] at hx
    split at hx
    · exact hx
    · cases hx
  exact ⟨h.mem, h.ext, h.frm, fun i x hx => h.at_ i x (hg i x hx), fun i j x y b hx hy => h.sep i j x y b (hg i x hx) (hg j y hy), fun i x b hx => h.out i x b (hg i x hx)⟩
/-- the function, given values that read so and blocks of the caller's own, returns a value that reads so, the blocks turned -/
def AG (P : Program) (f : FuncId) (asq : List AV) (hs : List Blk) (R : AV → List Blk → Prop) : Prop :=
  Enters P f ∧ ∀ (F : Frm) (M : Mm) (w : World) (vs : List Value), HeapOk F M hs w → RAs M asq vs →
    Calls P f vs.toArray w fun e w' => ∃ v r hs' M', e = .returned v ∧ R r hs' ∧ Ext F.may M M' ∧ HeapOk F M' hs' w' ∧ RA M' r v
theorem AG.imp {P : Program} {f : FuncId} {asq : List AV} {hs : List Blk} {R R' : AV → List Blk → Prop} (h : AG P f asq hs R) (hi : ∀ r hs, R r hs → R' r hs) : AG P f asq hs R' :=
  ⟨h.1, fun F M w vs hM hv => (h.2 F M w vs hM hv).mono fun _ _ ⟨v, r, hs', M', h1, h2, h3⟩ => ⟨v, r, hs', M', h1, hi r hs' h2, h3⟩⟩
/-- the end of such a function: the first k blocks are handed back -/
structure FinG (L : Tab) (res : List ResultVar) (k : Nat) (R : AV → List Blk → Prop) (e : Exit) (σ : AS) : Prop where
  out : (e = .normal ∨ e = .ret) ∧ ∃ vs, OutsA L σ res vs ∧ R (outA vs) (σ.hp.take k)
section
variable {P : Program} {F : Frm} {L : Tab}
theorem ag_enter {f : FuncId} {fn : Func} {c : Code} {asq : List AV} {hs : List Blk} {R : AV → List Blk → Prop} {N : Nat} {res : List ResultVar} (k : Nat) (hL : TabOk P L) (hf : P.funcs[f]? = some fn) (hNt : fn.ntmps = N) (hres : fn.results = res.toArray) (hb : fn.body = some c) (hn : (fn.name == "runtime.NumGoroutine") = false) (hN : Nat.ble asq.length N = true)
    (h : ∀ F, AC P F c (FinG L res k R) ⟨initT N asq, hs, N⟩) : AG P f asq hs R := by
  refine ⟨⟨fn, hf, hn, by rw [hb]; rfl⟩, fun F M w vs hh hav => ?_⟩
  have hlen := hav.len
  have hNl := Nat.le_of_ble_eq_true hN
  refine calls_of_wp hf hb (wp_mono ((h ⟨F.w0, F.X, M⟩).out M _ w ⟨?_, ?_, rfl, ⟨hh.mem, Ext.refl _ _, ⟨hh.frm.os, hh.frm.tape, hh.frm.output, hh.frm.size, hh.frm.block⟩, hh.at_, hh.sep, hh.out⟩⟩) ?_)
  · intro i
    simp only [initT]
    by_cases hi : i < asq.length
    · have : Nat.blt i N = true := Nat.ble_eq_true_of_le (by omega)
      rw [this, cond_true]
      have h1 : asq[i]? = some asq[i] := List.getElem?_eq_getElem hi
      obtain ⟨x, hx, hra⟩ := hav.get h1
      rw [List.getD_eq_getElem?_getD, h1]
      have h2 : i < vs.length := by omega
      have h3 : vs[i] = x := by rw [List.getElem?_eq_getElem h2] at hx; injection hx
      simp [Array.getD_eq_getD_getElem?, Array.getElem?_append, h2, h3]
      exact hra
    · have h1 : asq.getD i (.c (.lit undef)) = .c (.lit undef) := by
        rw [List.getD_eq_getElem?_getD, List.getElem?_eq_none (by omega)]; rfl
      rw [h1]
      have h2 : ¬ i < vs.length := by omega
      have h3 : (vs.toArray ++ Array.replicate (fn.ntmps - vs.toArray.size) undef).getD i undef = undef := by
        simp [Array.getD_eq_getD_getElem?, Array.getElem?_append, h2, Array.getElem?_replicate]
        split <;> rfl
      rw [h3]
      cases Nat.blt i N <;> simp only [cond_true, cond_false, RA, RT]
  · simp [hNt]; omega
  · rintro e' a' w' ⟨M', σ', ⟨⟨he', vs', ho, hK⟩⟩, hr⟩
    rw [show res = fn.results.toList by rw [hres]] at ho
    obtain ⟨u, hu', hRA⟩ := resultsA_sound hL hr ho
    have hx : Ext F.may M M' := hr.heap.ext
    have hh' : HeapOk F M' σ'.hp w' := ⟨hr.heap.mem, hh.ext.trans hx, ⟨hr.heap.frm.os, hr.heap.frm.tape, hr.heap.frm.output, hr.heap.frm.size, hr.heap.frm.block⟩, hr.heap.at_, hr.heap.sep, hr.heap.out⟩
    have hfin : a'.defers = [] ∧ ∃ v, (results fn a'.tmps).run P w' = .ok v w' ∧ ∃ v' r hs' M', Ending.returned v = .returned v' ∧ R r hs' ∧ Ext F.may M M' ∧ HeapOk F M' hs' w' ∧ RA M' r v' :=
      ⟨hr.defers, u, hu', u, outA vs', σ'.hp.take k, M', rfl, hK, hx, hh'.take k, hRA⟩
    rcases he' with rfl | rfl <;> exact hfin
end
def selB (hp : List Blk) : List Nat → Option (List Blk)
  | [] => some []
  | i :: is => match hp[i]?, selB hp is with | some x, some r => some (x :: r) | _, _ => none
def freshB : List Nat → Bool
  | [] => true
  | i :: is => !is.contains i && freshB is
def putB (hp : List Blk) : List Nat → List Blk → List Blk
  | [], hs => hp ++ hs
  | _ :: _, [] => hp
  | i :: is, x :: hs => (putB hp is hs).set i x
def posB (hp : List Blk) (sel : List Nat) (i : Nat) : Nat := match sel[i]? with | some j => j | none => hp.length + (i - sel.length)
theorem selB_get {hp : List Blk} : ∀ {sel : List Nat} {hs : List Blk}, selB hp sel = some hs → ∀ {i : Nat} {x : Blk}, hs[i]? = some x → ∃ j : Nat, sel[i]? = some j ∧ hp[j]? = some x
  | [], hs, h, i, x, hx => by simp only [selB, Option.some.injEq] at h; subst h; simp at hx
  | k :: is, hs, h, i, x, hx => by
    simp only [selB] at h
    cases h1 : hp[k]? with
    | none => rw [h1] at h; cases h
    | some y =>
      cases h2 : selB hp is with
      | none => rw [h1, h2] at h; cases h
      | some r =>
        rw [h1, h2] at h
        simp only [Option.some.injEq] at h
        subst h
        cases i with
        | zero => simp only [List.getElem?_cons_zero, Option.some.injEq] at hx; subst hx; exact ⟨k, rfl, h1⟩
        | succ i => obtain ⟨j, h3, h4⟩ := selB_get h2 (i := i) (by simpa using hx); exact ⟨j, by simpa using h3, h4⟩
theorem freshB_inj : ∀ {sel : List Nat}, freshB sel = true → ∀ {i i' j : Nat}, sel[i]? = some j → sel[i']? = some j → i = i'
  | [], _, i, i', j, h, _ => by simp at h
  | k :: is, hf, i, i', j, h, h' => by
    simp only [freshB, Bool.and_eq_true, Bool.not_eq_true', List.contains_eq_mem, decide_eq_false_iff_not] at hf
    cases i with
    | zero =>
      simp only [List.getElem?_cons_zero, Option.some.injEq] at h
      cases i' with
      | zero => rfl
      | succ i' => simp only [List.getElem?_cons_succ] at h'; exact absurd (h ▸ List.mem_of_getElem? h') hf.1
    | succ i =>
      simp only [List.getElem?_cons_succ] at h
      cases i' with
      | zero => simp only [List.getElem?_cons_zero, Option.some.injEq] at h'; exact absurd (h' ▸ List.mem_of_getElem? h) hf.1
      | succ i' => simp only [List.getElem?_cons_succ] at h'; rw [freshB_inj hf.2 h h']
theorem putB_get {hp : List Blk} : ∀ {sel : List Nat} {hs : List Blk}, sel.length ≤ hs.length → ∀ {j : Nat} {x : Blk}, (putB hp sel hs)[j]? = some x → (∃ i, j = posB hp sel i ∧ hs[i]? = some x) ∨ (hp[j]? = some x ∧ j ∉ sel)
  | [], hs, _, j, x, h => by
    simp only [putB] at h
    rcases Nat.lt_or_ge j hp.length with hj | hj
    · rw [List.getElem?_append_left hj] at h
      exact .inr ⟨h, by simp⟩
    · rw [List.getElem?_append_right hj] at h
      exact .inl ⟨j - hp.length, by simp only [posB, List.getElem?_nil, List.length_nil]; omega, h⟩
  | k :: is, [], hl, _, _, _ => by simp at hl
  | k :: is, y :: hs, hl, j, x, h => by
    simp only [putB, List.getElem?_set] at h
    split at h
    · rename_i hkj
      subst hkj
      split at h
      · exact .inl ⟨0, rfl, by simpa using h⟩
      · cases h
    · rename_i hkj
      rcases putB_get (by simpa using hl) h with ⟨i, h1, h2⟩ | ⟨h1, h2⟩
      · refine .inl ⟨i + 1, ?_, by simpa using h2⟩
        rw [h1]
        simp only [posB, List.getElem?_cons_succ, List.length_cons]
        split <;> omega
      · exact .inr ⟨h1, by simp [h2, Ne.symm hkj]⟩
def subF (M : Mm) (hs : List Blk) (w : World) : Frm := ⟨w, fun b => ∃ (i : Nat) (x : Blk), hs[i]? = some x ∧ x.blk = some b, M⟩
theorem heap_sel {F : Frm} {M : Mm} {hp hs : List Blk} {w : World} {sel : List Nat} (h : HeapOk F M hp w) (hs' : selB hp sel = some hs) (hf : freshB sel = true) : HeapOk (subF M hs w) M hs w := by
  refine ⟨h.mem, Ext.refl _ _, ⟨rfl, rfl, rfl, Nat.le_refl _, fun _ _ _ => rfl⟩, fun i x hx => ?_, fun i j x y b hx hy hxb hyb => ?_, fun i x b hx hxb => ?_⟩
  · obtain ⟨j, _, h2⟩ := selB_get hs' hx
    exact h.at_ j x h2
  · obtain ⟨k, h1, h2⟩ := selB_get hs' hx
    obtain ⟨k', h3, h4⟩ := selB_get hs' hy
    have := h.sep k k' x y b h2 h4 hxb hyb
    subst this
    exact freshB_inj hf h1 h3
  · obtain ⟨j, _, h2⟩ := selB_get hs' hx
    exact ⟨.inl ⟨i, x, hx, hxb⟩, (h.out j x b h2 hxb).2⟩
theorem sub_may {F : Frm} {M : Mm} {hp hs : List Blk} {w : World} {sel : List Nat} (h : HeapOk F M hp w) (hs' : selB hp sel = some hs) (b : Nat) (hb : (subF M hs w).may b) : F.may b := by
  rcases hb with ⟨i, x, hx, hxb⟩ | hb
  · obtain ⟨j, _, h2⟩ := selB_get hs' hx
    exact (h.out j x b h2 hxb).1
  · exact .inr (Nat.le_trans h.frm.size hb)
theorem heap_put {F : Frm} {M M' : Mm} {hp hs hs2 : List Blk} {w w' : World} {sel : List Nat} (h : HeapOk F M hp w) (hsl : selB hp sel = some hs) (hl : sel.length ≤ hs2.length) (h2 : HeapOk (subF M hs w) M' hs2 w') : HeapOk F M' (putB hp sel hs2) w' := by
  have hM : Ext (subF M hs w).may M M' := h2.ext
  have hX : ∀ b, (subF M hs w).X b → ∃ (j : Nat) (x : Blk), j ∈ sel ∧ hp[j]? = some x ∧ x.blk = some b := by
    rintro b ⟨i, x, hx, hb⟩
    obtain ⟨j, h3, h4⟩ := selB_get hsl hx
    exact ⟨j, x, List.mem_of_getElem? h3, h4, hb⟩
  have hold : ∀ (j : Nat) (x : Blk) (b : Nat), hp[j]? = some x → j ∉ sel → x.blk = some b → b < w.heap.size ∧ ¬ (subF M hs w).X b := by
    intro j x b hx hj hb
    refine ⟨(h.at_ j x hx).lt hb, fun hXb => ?_⟩
    obtain ⟨k, y, hk, hy, hyb⟩ := hX b hXb
    have := h.sep j k x y b hx hy hb hyb
    subst this
    exact hj hk
  refine ⟨h2.mem, h.ext.trans (hM.to (sub_may h hsl)), ⟨h2.frm.os.trans h.frm.os, h2.frm.tape.trans h.frm.tape, h2.frm.output.trans h.frm.output, Nat.le_trans h.frm.size h2.frm.size, fun b hb hnX => ?_⟩, fun j x hx => ?_, fun j k x y b hx hy hxb hyb => ?_, fun j x b hx hxb => ?_⟩
  · refine (h2.frm.block b (Nat.lt_of_lt_of_le hb h.frm.size) fun hXb => ?_).trans (h.frm.block b hb hnX)
    obtain ⟨k, y, _, hy, hyb⟩ := hX b hXb
    rcases (h.out k y b hy hyb).1 with h3 | h3
    · exact hnX h3
    · omega
  · rcases putB_get hl hx with ⟨i, _, hi⟩ | ⟨hj, hns⟩
    · exact h2.at_ i x hi
    · exact (h.at_ j x hj).keep hM.sub fun b hb hlt => h2.frm.block b hlt (hold j x b hj hns hb).2
  · rcases putB_get hl hx with ⟨i, hji, hi⟩ | ⟨hj, hns⟩
    · rcases putB_get hl hy with ⟨i', hji', hi'⟩ | ⟨hk, hns'⟩
      · rw [hji, hji', h2.sep i i' x y b hi hi' hxb hyb]
      · obtain ⟨h3, h4⟩ := hold k y b hk hns' hyb
        rcases (h2.out i x b hi hxb).1 with h5 | h5
        · exact absurd h5 h4
        · have : w.heap.size ≤ b := h5
          omega
    · rcases putB_get hl hy with ⟨i', hji', hi'⟩ | ⟨hk, hns'⟩
      · obtain ⟨h3, h4⟩ := hold j x b hj hns hxb
        rcases (h2.out i' y b hi' hyb).1 with h5 | h5
        · exact absurd h5 h4
        · have : w.heap.size ≤ b := h5
          omega
      · exact h.sep j k x y b hj hk hxb hyb
  · rcases putB_get hl hx with ⟨i, hji, hi⟩ | ⟨hj, hns⟩
    · obtain ⟨h3, h4⟩ := h2.out i x b hi hxb
      refine ⟨?_, h4⟩
      rcases h3 with h5 | h5
      · obtain ⟨k, y, _, hy, hyb⟩ := hX b h5
        exact (h.out k y b hy hyb).1
      · exact .inr (Nat.le_trans h.frm.size h5)
    · obtain ⟨h3, h4⟩ := h.out j x b hj hxb
      refine ⟨h3, fun p hp' => ?_⟩
      have hlt := hold j x b hj hns hxb
      cases hc : M' p with
      | none => rfl
      | some v =>
        rcases hM.2 p v hc with h5 | h5
        · rw [h4 p hp'] at h5; cases h5
        · rcases h5 with h6 | h6
          · exact absurd (hp' ▸ h6) hlt.2
          · have h7 : w.heap.size ≤ p.block := h6
            omega
def Re (a b : AV) : Prop := ∀ M u, RA M a u → RA M b u
def Res (asq bs : List AV) : Prop := ∀ M us, RAs M asq us → RAs M bs us
theorem re_refl {a : AV} : Re a a := fun _ _ h => h
theorem re_own {i j : Nat} {v : Value} : Re (.own i v) (.own j v) := fun M u h => by simp only [RA] at h ⊢; exact h
theorem re_ptr {i j b off : Nat} : Re (.ptr i b off) (.ptr j b off) := fun M u h => by simp only [RA] at h ⊢; exact h
theorem re_cls {a : AV} {t : T} (hz : Rzs [] [a] [t]) : Re a (.c t) := fun M u h => by
  have h1 : RAs M [a] [u] := by simp only [RAs]; exact ⟨u, [], rfl, h, rfl⟩
  have h2 := cls_sound _ _ _ hz h1
  simp only [RTs] at h2
  obtain ⟨x, r, e, h3, _⟩ := h2
  injection e with e _
  subst e
  simpa only [RA] using h3
theorem res_nil : Res [] [] := fun _ _ h => h
theorem res_cons {a b : AV} {asq bs : List AV} (h : Re a b) (h' : Res asq bs) : Res (a :: asq) (b :: bs) := fun M us hu => by
  simp only [RAs] at hu ⊢
  obtain ⟨x, r, e, h1, h2⟩ := hu
  exact ⟨x, r, e, h M x h1, h' M r h2⟩
section
variable {P : Program} {F : Frm} {d : Option Tmp} {ty : TypeId} {pos : String} {aft : Array Edge} {g : Option (Nat × Bool)} {ρ : Operand → AV} {hp : List Blk} {K : AV → List Blk → Prop}
theorem lo_callG {f : FuncId} {y : Operand} {xs : List Operand} {ats : Array TypeId} {asq cap : List AV} {hs : List Blk} {R : AV → List Blk → Prop} (sel : List Nat) (hc : AG P f asq hs R) (hy : ∀ M u, RA M (ρ y) u → ∃ cs : List Value, u = .func (.func f) #[] cs.toArray ∧ RAs M cap cs) (hx : Res (xs.map ρ ++ cap) asq) (hsl : selB hp sel = some hs) (hf : freshB sel = true)
    (h : ∀ r hs2, R r hs2 → ∃ r', Re r r' ∧ sel.length ≤ hs2.length ∧ K r' (putB hp sel hs2)) : LO P F ⟨d, .call { callee := .value y, args := xs.toArray, argTypes := ats }, ty, pos, aft, g⟩ ρ hp K := by
  refine ⟨fun M e w he hh => ?_⟩
  obtain ⟨hE, hcall⟩ := hc
  have h1 := he y (by simp [Op.operands, Call.operands])
  obtain ⟨cs, hu, hcs⟩ := hy M _ h1
  rw [run_call hE hu]
  have hav := (ev_all xs (fun x hx => he x (by simp [Op.operands, Call.operands, hx]))).app hcs
  refine (hcall (subF M hs w) M w _ (heap_sel hh hsl hf) (hx M _ hav)).mono ?_
  rintro e' w' ⟨v, r, hs2, M', rfl, hR, hM, hh2, hr⟩
  obtain ⟨r', hre, hl, hK⟩ := h r hs2 hR
  exact ⟨v, rfl, M', r', _, hK, hM.to (sub_may hh hsl), heap_put hh hsl hl hh2, hre M' v hr⟩
end
end Go.Proofs.Ythgackidonocpaa
namespace Go.Proofs.Ythgackidonocpaa
open Go.RowKit Go.Lib
def bytT (b : UInt8) : T := .lit (.int .u8 (b.toNat : Int))
def byts (l : List UInt8) : List T := l.map bytT
def bytRow (l : List UInt8) : T := .row l.length 1 (byts l)
theorem byts_len (l : List UInt8) : (byts l).length = l.length := by simp [byts]
theorem byts_app (l r : List UInt8) : byts (l ++ r) = byts l ++ byts r := by simp [byts]
theorem rt_byts {M : Mm} : ∀ l : List UInt8, RTs M (byts l) (bvs l)
  | [] => by simp [byts, bvs, RTs]
  | b :: l => by
    simp only [byts, bvs, List.map_cons, RTs]
    exact ⟨_, _, rfl, by simp only [bytT, RT, bv], rt_byts l⟩
theorem byts_of {M : Mm} : ∀ {l : List UInt8} {xs : List Value}, RTs M (byts l) xs → xs = bvs l
  | [], _, h => by simpa [byts, RTs, bvs] using h
  | b :: l, _, h => by
    simp only [byts, List.map_cons, RTs] at h
    obtain ⟨x, r, rfl, h1, h2⟩ := h
    simp only [bytT, RT] at h1
    rw [h1, byts_of (l := l) h2]
    rfl
theorem rd_of_row {M : Mm} {w : World} (hm : MemOk M w) {l : List UInt8} {u : Value} (h : RT M (bytRow l) u) : ∃ A c, u = .slice A l.length c ∧ Rd w w.heap.size 1 A l.length (bvs l) := by
  simp only [bytRow, RT] at h
  obtain ⟨A, c, xs, h1, h2, h3, h4, h5, h6, h7⟩ := h
  obtain rfl := byts_of h7
  refine ⟨A, c, h1, h5, fun hn => ?_⟩
  obtain ⟨ad, h8, h9⟩ := h6 hn
  have hat : ∀ j u, (bvs l)[j]? = some u → w.cell? (ad.add j) = some u := fun j u hj => (hm _ _ (h9 j u hj)).1
  refine ⟨ad, h8, ?_, hat⟩
  obtain ⟨x, hx⟩ : ∃ x, (bvs l)[0]? = some x := ⟨_, List.getElem?_eq_getElem (by rw [bvs_len]; exact hn)⟩
  have := World.block_lt_of_cell? w _ (hat 0 x hx)
  rwa [add_block] at this
theorem strCells_eq (s : ByteArray) : strCells s = bvs s.data.toList := by
  simp [strCells, bvs, bv]
section
variable {P : Program} {F : Frm} {L : Tab} {d : Option Tmp} {ty : TypeId} {pos : String} {aft : Array Edge} {g : Option (Nat × Bool)} {ρ : Operand → AV} {hp : List Blk} {K : AV → List Blk → Prop}
variable {t t' u e : TypeId} {x y : Operand} {k k' : IntKind} {a b : Int}
theorem lo_str {ti tu te : TI} {l : List UInt8} (hL : TabOk P L) (hx : ρ x = .c (bytRow l)) (hu : L.look u = some tu) (hud : tu.d = .slice e) (he : L.look e = some te) (hed : te.d = .int .u8) (ht : L.look t = some ti) (hd : ti.d = .string) (h : K (.c (.lit (.string ⟨l.toArray⟩))) hp) : LO P F ⟨d, .convert u t x, ty, pos, aft, g⟩ ρ hp K := by
  refine LO.same (fun M ev w hev hh => ?_) h
  have h1 := hev x (by first | (simp [Op.operands]; done) | simp [Op.operands, Call.operands])
  rw [hx] at h1
  simp only [RA] at h1
  obtain ⟨A, c, h2, h3⟩ := rd_of_row hh.mem h1
  have := run_string_rd (P := P) u t e (hL.slice hu hud) (hL.int he hed) (hL.string ht hd) c h3
  exact ⟨.string ⟨l.toArray⟩, by simp [execOp, h2, this], by simp only [RA, RT]⟩
theorem lo_bytes {ti tu te : TI} {s : ByteArray} (hL : TabOk P L) (hx : ρ x = .c (.lit (.string s))) (hs : s.size ≤ maxLen) (hu : L.look u = some tu) (hud : tu.d = .string) (ht : L.look t = some ti) (hd : ti.d = .slice e) (he : L.look e = some te) (hed : te.d = .int .u8) (h : K (.c (bytRow s.data.toList)) hp) : LO P F ⟨d, .convert u t x, ty, pos, aft, g⟩ ρ hp K := by
  refine ⟨fun M ev w hev hh => ?_⟩
  have h1 := hev x (by first | (simp [Op.operands]; done) | simp [Op.operands, Call.operands])
  rw [hx] at h1
  simp only [RA, RT] at h1
  obtain ⟨c, w', h2, h3, h4, h5⟩ := run_bytes_rd (P := P) w u t e s.data.toList (hL.string hu hud) (hL.slice ht hd) (hL.int he hed)
  have hsz : s.data.toList.length = s.size := rfl
  have hrun : (execOp ev ⟨d, .convert u t x, ty, pos, aft, g⟩).run P w = .ok (.value (.slice (some ⟨w.heap.size, 0, none⟩) s.data.toList.length c)) w' := by
    simp [execOp, h1] at h2 ⊢
    simp [h2]
  rw [hrun]
  have hm0 := hh.mem.below h5
  have hM := frz_ext (M := M) w.heap.size w'
  refine ⟨frz M w.heap.size w', _, hp, h, (hM.low hh.frm.size), hh.below h5 hM (frz_ok hm0 _), ?_⟩
  simp only [RA, bytRow, RT]
  refine ⟨some ⟨w.heap.size, 0, none⟩, c, bvs s.data.toList, rfl, h3, by rw [hsz]; exact hs, by omega, by rw [bvs_len]; omega, fun hn => ⟨_, rfl, fun j u hj => ?_⟩, rt_byts _⟩
  obtain ⟨ad, e1, _, e2⟩ := h4.2 hn
  injection e1 with e1
  subst e1
  exact frz_new (mem_fresh hh.mem (by rw [add_block]; exact Nat.le_refl _)) (by rw [add_block]; exact Nat.le_refl _) (e2 j u hj) (bvs_one _ u (List.mem_of_getElem? hj))
theorem lo_shl {n : Int} (hx : ρ x = .c (.lit (.int k a))) (hy : ρ y = .c (.lit (.int k' n))) (h0 : 0 ≤ n) {r : Int} (hr : k.wrap (a * 2 ^ (min n.toNat k.bits)) = r) (h : K (.c (.lit (.int k r))) hp) : LO P F ⟨d, .binOp .shl t x y t', ty, pos, aft, g⟩ ρ hp K :=
  lo_bin hx hy guard_int (fun w => by simp only [binOp, Op.shift, if_neg (Int.not_lt.2 h0), hr, Sem.run_pure]) h
theorem lo_shr {n : Int} (hx : ρ x = .c (.lit (.int k a))) (hy : ρ y = .c (.lit (.int k' n))) (h0 : 0 ≤ n) {r : Int} (hr : a.fdiv (2 ^ (min n.toNat k.bits)) = r) (h : K (.c (.lit (.int k r))) hp) : LO P F ⟨d, .binOp .shr t x y t', ty, pos, aft, g⟩ ρ hp K :=
  lo_bin hx hy guard_int (fun w => by simp only [binOp, Op.shift, if_neg (Int.not_lt.2 h0), hr, Sem.run_pure]) h
theorem lo_or (hx : ρ x = .c (.lit (.int k a))) (hy : ρ y = .c (.lit (.int k b))) {r : Int} (hr : k.wrap (((a % 2 ^ k.bits).toNat ||| (b % 2 ^ k.bits).toNat : Nat) : Int) = r) (h : K (.c (.lit (.int k r))) hp) : LO P F ⟨d, .binOp .or t x y t', ty, pos, aft, g⟩ ρ hp K :=
  lo_bin hx hy guard_int (fun w => by simp [binOp, Op.intBits, hr]) h
theorem lo_and (hx : ρ x = .c (.lit (.int k a))) (hy : ρ y = .c (.lit (.int k b))) {r : Int} (hr : k.wrap (((a % 2 ^ k.bits).toNat &&& (b % 2 ^ k.bits).toNat : Nat) : Int) = r) (h : K (.c (.lit (.int k r))) hp) : LO P F ⟨d, .binOp .and t x y t', ty, pos, aft, g⟩ ρ hp K :=
  lo_bin hx hy guard_int (fun w => by simp [binOp, Op.intBits, hr]) h
theorem lo_xor (hx : ρ x = .c (.lit (.int k a))) (hy : ρ y = .c (.lit (.int k b))) {r : Int} (hr : k.wrap (((a % 2 ^ k.bits).toNat ^^^ (b % 2 ^ k.bits).toNat : Nat) : Int) = r) (h : K (.c (.lit (.int k r))) hp) : LO P F ⟨d, .binOp .xor t x y t', ty, pos, aft, g⟩ ρ hp K :=
  lo_bin hx hy guard_int (fun w => by simp [binOp, Op.intBits, hr]) h
theorem lo_app_str {ti tu te : TI} {i n : Nat} {v : Value} {cs : List T} {s : ByteArray} (hL : TabOk P L) (hx : ρ x = .own i v) (hi : hp[i]? = some (.row v e 1 n cs)) (hy : ρ y = .c (.lit (.string s))) (ht : L.look t = some ti) (hd : ti.d = .slice e) (hu : L.look u = some tu) (hud : tu.d = .string) (hte : L.look e = some te) (hsz : te.size = 1) (hby : te.bytes = 1) (hz : te.zero = [.int .u8 0]) (hag : te.agg = false)
    (h63 : n + s.size ≤ 140737488355328) (h : ∀ v', K (.own i v') (hp.set i (.row v' e 1 (n + s.size) (cs ++ byts s.data.toList)))) : LO P F ⟨d, .call { callee := .builtin .append, args := #[x, y], argTypes := #[t, u] }, ty, pos, aft, g⟩ ρ hp K := by
  refine ⟨fun M ev w hev hh => ?_⟩
  have h1 := hev x (by first | (simp [Op.operands]; done) | simp [Op.operands, Call.operands])
  rw [hx] at h1
  simp only [RA] at h1
  have h2 := hev y (by first | (simp [Op.operands]; done) | simp [Op.operands, Call.operands])
  rw [hy] at h2
  simp only [RA, RT] at h2
  obtain ⟨xs, ho, hxs, hone, hsz0⟩ := hh.at_ i _ hi
  obtain ⟨inf, zv, i1, i2, i3, i4, i5, i6, i7⟩ := hL.info hte
  have hzv : zv = .int .u8 0 := by
    rw [hag] at i7
    rw [hz] at i5
    cases zv <;> simp_all [Value.cells]
  have hml : n + s.size ≤ maxLen := by unfold maxLen; omega
  obtain ⟨v', w', g1, g2, g5, g6⟩ := run_append_own_string (P := P) w 0 t u ty e inf (hL.slice ht hd) (hL.string hu hud) i1 (by rw [i4, hzv]) (by rw [i2, hsz]) (by rw [i3, hby]) v n xs ho s hml h63 (Nat.zero_le _)
  have hrun : (execOp ev ⟨d, .call { callee := .builtin .append, args := #[x, y], argTypes := #[t, u] }, ty, pos, aft, g⟩).run P w = .ok (.value v') w' := by
    simp [execOp, resolve, invoke, builtin, h1.1, h2, g1]
  rw [hrun]
  have hwhere : v'.ownBlock = v.ownBlock ∨ v'.ownBlock = some w.heap.size := by
    rcases ho.2 with ⟨rfl, rfl⟩ | ⟨gb, cap, cur, rfl, _, hgb, hnc, hcm, hcs, htake⟩
    · by_cases h0 : s.size = 0
      · exact .inl (by rw [g6.2 ⟨rfl, h0⟩])
      · have hr := run_append_nil_string (P := P) w t u ty e inf zv (hL.slice ht hd) (hL.string hu hud) i1 i4 s (by omega) (by omega) (by rw [i3, hby]; omega)
        rw [hr] at g1
        injection g1 with e1 _
        exact .inr (by rw [← e1]; rfl)
    · by_cases hroom : n + s.size ≤ cap
      · have hcs' : cur.size = cap := by simpa using hcs
        have hr := run_append_room_string (P := P) w t u ty e inf (hL.slice ht hd) (hL.string hu hud) i1 (by rw [i2, hsz]) gb n cap cur hgb s hroom (by omega)
        rw [hr] at g1
        injection g1 with e1 _
        exact .inl (by rw [← e1]; rfl)
      · have hxl : xs.length = n := by simpa using ho.1
        have hr := run_append_grow_string (P := P) w t u ty e inf zv (hL.slice ht hd) (hL.string hu hud) i1 i4 ⟨gb, 0, none⟩ n cap xs (by rw [i2, hsz]; simpa using hxl) (ho.cells (g := gb) rfl) s (by omega) (by omega) (by rw [i3, hby]; have := nextslicecap_le (need := n + s.size) (old := cap) (by omega); omega)
        rw [hr] at g1
        injection g1 with e1 _
        exact .inr (by rw [← e1]; rfl)
  refine ⟨M, _, _, h v', Ext.refl _ _, ?_, by simp only [RA]; exact ⟨trivial, own_one g2⟩⟩
  refine hh.step i g5.os g5.tape g5.output g5.size (fun k hk hne => g5.block k hk (fun e => hne _ hi e.symm)) (Ext.refl _ _) (fun p v h1 h2 => by rw [h2] at h1; cases h1) (fun j hj => by rw [List.getElem?_set_ne (Ne.symm hj)]) (fun x' hx' => ?_)
  have hlt : i < hp.length := (List.getElem?_eq_some_iff.1 hi).1
  rw [List.getElem?_set_self hlt] at hx'
  obtain rfl : Blk.row v' e 1 (n + s.size) (cs ++ byts s.data.toList) = x' := by injection hx'
  rw [strCells_eq] at g2
  refine ⟨⟨_, g2, hxs.app (rt_byts _), hone.app (bvs_one _), by omega⟩, fun b hb => ?_⟩
  rcases hwhere with g6 | g6
  · exact .inl ⟨_, hi, by simpa [Blk.blk, g6] using hb⟩
  · obtain rfl : w.heap.size = b := by simpa [Blk.blk, g6] using hb
    exact .inr ⟨Nat.le_refl _, fun p hp => mem_fresh hh.mem (by omega)⟩
end
end Go.Proofs.Ythgackidonocpaa
namespace Go.Proofs.Ythgackidonocpaa
open Go.RowKit
section
variable {L : Tab} {σ : AS}
theorem outsA_nil : OutsA L σ [] [] := by simp only [OutsA]
theorem outsA_cons {r : ResultVar} {rs : List ResultVar} {v : AV} {vs : List AV} (h : OutA L σ r v) (h' : OutsA L σ rs vs) : OutsA L σ (r :: rs) (v :: vs) := by simp only [OutsA]; exact ⟨v, vs, rfl, h, h'⟩
theorem outA_tmp {i : Nat} {v : AV} (h : fc (σ.tmps i) = some v) : OutA L σ (.tmp i) v := by simp only [OutA]; exact fc_eq h
theorem outA_agg {a ty i b off : Nat} {tb : TypeId} {cs l : List AV} {ti : TI} (h1 : σ.tmps a = .ptr i b off) (h2 : σ.hp[i]? = some (.box b tb cs)) (h3 : L.look ty = some ti) (h4 : ti.agg = true) (h5 : Nat.ble (off + ti.size) cs.length = true) (h6 : evl ((cs.drop off).take ti.size) = some l) : OutA L σ (.cell a ty) (.agg l) := by
  simp only [OutA]
  refine ⟨i, b, off, tb, cs, ti, h1, h2, h3, ?_⟩
  rw [h4]
  exact ⟨Nat.le_of_ble_eq_true h5, by rw [evl_eq h6]⟩
theorem outA_one {a ty i b off : Nat} {tb : TypeId} {cs : List AV} {v : AV} {ti : TI} (h1 : σ.tmps a = .ptr i b off) (h2 : σ.hp[i]? = some (.box b tb cs)) (h3 : L.look ty = some ti) (h4 : ti.agg = false) (h5 : cs[off]? = some v) : OutA L σ (.cell a ty) v := by
  simp only [OutA]
  refine ⟨i, b, off, tb, cs, ti, h1, h2, h3, ?_⟩
  rw [h4]
  exact h5
theorem zG {res : List ResultVar} {k : Nat} {R : AV → List Blk → Prop} {e : Exit} {vs : List AV} {hq : List Blk} (h : R (outA vs) hq) (he : e = .normal ∨ e = .ret := by first | exact .inl rfl | exact .inr rfl)
    (ho : OutsA L σ res vs := by repeat (first | exact outsA_nil | apply outsA_cons | (apply outA_tmp; (focus exact rfl)) | (apply outA_agg; (focus exact rfl); (focus exact rfl); (focus exact rfl); (focus exact rfl); (focus exact rfl); (focus exact rfl)) | (apply outA_one; (focus exact rfl); (focus exact rfl); (focus exact rfl); (focus exact rfl); (focus exact rfl))))
    (hh : evl (σ.hp.take k) = some hq := by exact rfl) : FinG L res k R e σ := ⟨he, vs, ho, by rw [← evl_eq hh]; exact h⟩
end
section
variable {P : Program} {F : Frm} {L : Tab} {d : Option Tmp} {ty : TypeId} {pos : String} {aft : Array Edge} {g : Option (Nat × Bool)} {ρ : Operand → AV} {hp : List Blk} {K : AV → List Blk → Prop}
theorem zCallG {f : FuncId} {y : Operand} {xs : List Operand} {ats : Array TypeId} {asq cap : List AV} {hs : List Blk} {R : AV → List Blk → Prop} (sel : List Nat) (hc : AG P f asq hs R)
    (h : ∀ r hs2, R r hs2 → ∃ r' hp', Re r r' ∧ Nat.ble sel.length hs2.length = true ∧ evl (putB hp sel hs2) = some hp' ∧ K r' hp') (hy : ρ y = .fn (.func f) cap := by exact rfl)
    (hx : Res (xs.map ρ ++ cap) asq := by repeat (first | exact res_nil | apply res_cons | exact re_own | exact re_ptr | exact re_refl | apply re_cls | exact rzs_nil | apply rzs_cons | exact rz_c | exact rz_nil rfl | apply rz_agg | apply rz_fn | apply rz_tup)) (hsl : selB hp sel = some hs := by exact rfl) (hf : freshB sel = true := by exact rfl) :
    LO P F ⟨d, .call { callee := .value y, args := xs.toArray, argTypes := ats }, ty, pos, aft, g⟩ ρ hp K :=
  lo_callG sel hc (fun M u hu => by rw [hy] at hu; simpa only [RA] using hu) hx hsl hf fun r hs2 hR => by
    obtain ⟨r', hp', h1, h2, h3, h4⟩ := h r hs2 hR
    exact ⟨r', h1, Nat.le_of_ble_eq_true h2, by rw [← evl_eq h3]; exact h4⟩
/-- a function value that came in -/
theorem zCallGc {f : FuncId} {y : Operand} {xs : List Operand} {ats : Array TypeId} {asq : List AV} {cap : List T} {hs : List Blk} {R : AV → List Blk → Prop} (sel : List Nat) (hc : AG P f asq hs R)
    (h : ∀ r hs2, R r hs2 → ∃ r' hp', Re r r' ∧ Nat.ble sel.length hs2.length = true ∧ evl (putB hp sel hs2) = some hp' ∧ K r' hp') (hy : ρ y = .c (.fn (.func f) cap) := by exact rfl)
    (hx : Res (xs.map ρ ++ cap.map .c) asq := by repeat (first | exact res_nil | apply res_cons | exact re_own | exact re_ptr | exact re_refl | apply re_cls | exact rzs_nil | apply rzs_cons | exact rz_c | exact rz_nil rfl | apply rz_agg | apply rz_fn | apply rz_tup)) (hsl : selB hp sel = some hs := by exact rfl) (hf : freshB sel = true := by exact rfl) :
    LO P F ⟨d, .call { callee := .value y, args := xs.toArray, argTypes := ats }, ty, pos, aft, g⟩ ρ hp K :=
  lo_callG sel hc (fun M u hu => by
    rw [hy] at hu
    simp only [RA, RT] at hu
    obtain ⟨cs, h1, h2⟩ := hu
    exact ⟨cs, h1, RAs.ofT h2⟩) hx hsl hf fun r hs2 hR => by
    obtain ⟨r', hp', h1, h2, h3, h4⟩ := h r hs2 hR
    exact ⟨r', h1, Nat.le_of_ble_eq_true h2, by rw [← evl_eq h3]; exact h4⟩
variable {t u e : TypeId} {x y : Operand} {ti tu te : TI} {cs : List T} {n i : Nat} {v : Value} {e' : TypeId}
theorem zStr (l : List UInt8) (hc : cs = byts l) (hn : n = l.length) (h : K (.c (.lit (.string ⟨l.toArray⟩))) hp) (hL : TabOk P L := by exact tok) (hx : ρ x = .c (.row n 1 cs) := by exact rfl) (hu : L.look u = some tu := by exact rfl) (hud : tu.d = .slice e := by exact rfl) (he : L.look e = some te := by exact rfl) (hed : te.d = .int .u8 := by exact rfl) (ht : L.look t = some ti := by exact rfl) (hd : ti.d = .string := by exact rfl) :
    LO P F ⟨d, .convert u t x, ty, pos, aft, g⟩ ρ hp K := lo_str hL (by rw [hx, hc, hn]; rfl) hu hud he hed ht hd h
theorem zByt {s : ByteArray} (hs : s.size ≤ maxLen) (h : K (.c (bytRow s.data.toList)) hp) (hL : TabOk P L := by exact tok) (hx : ρ x = .c (.lit (.string s)) := by exact rfl) (hu : L.look u = some tu := by exact rfl) (hud : tu.d = .string := by exact rfl) (ht : L.look t = some ti := by exact rfl) (hd : ti.d = .slice e := by exact rfl) (he : L.look e = some te := by exact rfl) (hed : te.d = .int .u8 := by exact rfl) :
    LO P F ⟨d, .convert u t x, ty, pos, aft, g⟩ ρ hp K := lo_bytes hL hx hs hu hud ht hd he hed h
theorem zAps {s : ByteArray} {hp' : Value → List Blk} (h63 : n + s.size ≤ 140737488355328) (h : ∀ v', K (.own i v') (hp' v')) (hL : TabOk P L := by exact tok) (hx : ρ x = .own i v := by exact rfl) (hi : hp[i]? = some (.row v e 1 n cs) := by exact rfl) (hy : ρ y = .c (.lit (.string s)) := by exact rfl) (ht : L.look t = some ti := by exact rfl) (hd : ti.d = .slice e := by exact rfl) (hu : L.look u = some tu := by exact rfl) (hud : tu.d = .string := by exact rfl) (hte : L.look e = some te := by exact rfl) (hsz : te.size = 1 := by exact rfl) (hby : te.bytes = 1 := by exact rfl) (hz : te.zero = [.int .u8 0] := by exact rfl) (hag : te.agg = false := by exact rfl)
    (hf : ∀ v', evl (hp.set i (.row v' e 1 (n + s.size) (cs ++ byts s.data.toList))) = some (hp' v') := by exact fun _ => rfl) : LO P F ⟨d, .call { callee := .builtin .append, args := #[x, y], argTypes := #[t, u] }, ty, pos, aft, g⟩ ρ hp K :=
  lo_app_str hL hx hi hy ht hd hu hud hte hsz hby hz hag h63 fun v' => by rw [← evl_eq (hf v')]; exact h v'
end
end Go.Proofs.Ythgackidonocpaa
namespace Go.Proofs.Ythgackidonocpaa
open Go.RowKit
def bs (l : List UInt8) : ByteArray := ⟨l.toArray⟩
theorem bs_app (a b : List UInt8) : bs a ++ bs b = bs (a ++ b) := by
  apply ByteArray.ext
  simp [bs]
theorem bs_self (s : ByteArray) : bs s.data.toList = s := by cases s; rfl
theorem bs_size' (l : List UInt8) : (bs l).size = l.length := by simp [bs, ByteArray.size]
theorem sz_len (s : ByteArray) : s.data.toList.length = s.size := by cases s; simp [ByteArray.size]
theorem bs_inj {a b : List UInt8} (h : bs a = bs b) : a = b := by
  have := congrArg (fun s : ByteArray => s.data.toList) h
  simpa [bs] using this
section
variable {P : Program} {F : Frm} {L : Tab} {d : Option Tmp} {ty : TypeId} {pos : String} {aft : Array Edge} {g : Option (Nat × Bool)} {ρ : Operand → AV} {hp : List Blk} {K : AV → List Blk → Prop}
theorem zBo {t el : TypeId} {ti te : TI} {n k : Nat} {parts : List (Nat × Operand)} {cs cs' : List AV} {ts : List T} {hp' : Value → List Blk} (h : ∀ v, K (.own k v) (hp' v)) (hL : TabOk P L := by exact tok) (ht : L.look t = some ti := by exact rfl) (hd : ti.d = .slice el := by exact rfl) (hte : L.look el = some te := by exact rfl) (h0 : Nat.ble 1 te.size = true := by exact rfl) (hn : Nat.ble (n * te.size) 16777216 = true := by exact rfl)
    (hf : fillA (fun i => some (i * te.size, te.size)) ((List.range (n * te.size)).map fun j => .c (.lit (te.zero.getD (j % te.size) undef))) (parts.map fun p => (p.1, ρ p.2)) = some cs := by exact rfl) (he : evl cs = some cs' := by exact rfl) (hz : Rzs [] cs' ts := by repeat (first | exact rzs_nil | apply rzs_cons | exact rz_c | exact rz_nil rfl | apply rz_agg | exact rz_own rfl | apply rz_fn | exact rz_ptr rfl | apply rz_tup)) (hk : lenU hp = some k := by exact rfl) (hq : ∀ v, evl (hp ++ [.row v el te.size n ts]) = some (hp' v) := by exact fun _ => rfl) :
    LO P F ⟨d, .buildSlice t n parts.toArray, ty, pos, aft, g⟩ ρ hp K := v_bslice_own hL ht hd hte h0 hn hf he hz hk hq h
theorem zCatb {t t' : TypeId} {x y : Operand} (a b : List UInt8) (hb : a.length + b.length ≤ 9223372036854775807) (h : K (.c (.lit (.string (bs (a ++ b))))) hp) (hx : ρ x = .c (.lit (.string (bs a))) := by exact rfl) (hy : ρ y = .c (.lit (.string (bs b))) := by exact rfl) : LO P F ⟨d, .binOp .add t x y t', ty, pos, aft, g⟩ ρ hp K :=
  lo_cat hx hy (by rw [bs_size', bs_size']; exact hb) (by rw [bs_app]; exact h)
end
/-- a function that grows a row of the caller's own, given nil -/
theorem ag_nil {P : Program} {f : FuncId} {asq : List AV} {e : TypeId} {sz : Nat} {R : AV → List Blk → Prop} (h0 : 0 < sz) (h : AG P f (.own 0 (.slice none 0 0) :: asq) [.row (.slice none 0 0) e sz 0 []] R) : AG P f (.c (.lit (.slice none 0 0)) :: asq) [] R := by
  refine ⟨h.1, fun F M w vs hh hv => ?_⟩
  refine h.2 F M w vs (push_row hh rfl rfl rfl (Nat.le_refl _) (fun _ _ => rfl) (Ext.refl _ _) (fun p v h1 h2 => by rw [h2] at h1; cases h1) ⟨[], World.ownsRow_nil _ _ _ _, by simp only [RTs], fun x hx => by simp at hx, h0⟩ (fun b hb => by simp [Blk.blk, Value.ownBlock] at hb)) ?_
  simp only [RAs] at hv ⊢
  obtain ⟨x, r, e1, h1, h2⟩ := hv
  simp only [RA, RT] at h1
  exact ⟨x, r, e1, by simp only [RA]; exact ⟨h1, rfl⟩, h2⟩
end Go.Proofs.Ythgackidonocpaa
namespace Go.Proofs.Ythgackidonocpaa
set_option maxRecDepth 100000 in
def tab : Tab :=
  (.node 203 ⟨1, 8, [.nilFunc], .other⟩ (.node 102 ⟨8, 136, [.int .i64 0, .int .i64 0, .string ⟨#[]⟩, .slice none 0 0, .slice none 0 0, .slice none 0 0, .slice none 0 0, .int .i64 0], (.struct [(0, 1), (1, 1), (2, 1), (3, 1), (4, 1), (5, 1), (6, 1), (7, 1)])⟩ (.node 52 ⟨1, 8, [.nilFunc], .other⟩ (.node 24 ⟨4, 56, [.int .i64 0, .int .i64 0, .string ⟨#[]⟩, .slice none 0 0], (.struct [(0, 1), (1, 1), (2, 1), (3, 1)])⟩ (.node 12 ⟨1, 8, [.int .u64 0], (.int .u64)⟩ (.node 6 ⟨1, 1, [.int .u8 0], (.int .u8)⟩ (.node 3 ⟨1, 8, [.int .i64 0], (.int .i64)⟩ (.node 2 ⟨1, 8, [.int .i64 0], (.int .i64)⟩ (.node 1 ⟨1, 8, [.nilFunc], .other⟩ .nil .nil) .nil) (.node 5 ⟨1, 1, [.int .u8 0], (.int .u8)⟩ (.node 4 ⟨1, 1, [.bool false], .bool⟩ .nil .nil) .nil)) (.node 9 ⟨1, 16, [.string ⟨#[]⟩], .string⟩ (.node 8 ⟨4, 24, [.int .i64 0, .int .i64 0, .bool false, .int .u8 0], (.struct [(0, 1), (1, 1), (2, 1), (3, 1)])⟩ (.node 7 ⟨4, 24, [.int .i64 0, .int .i64 0, .bool false, .int .u8 0], (.struct [(0, 1), (1, 1), (2, 1), (3, 1)])⟩ .nil .nil) .nil) (.node 11 ⟨1, 16, [.string ⟨#[]⟩], .string⟩ (.node 10 ⟨1, 16, [.string ⟨#[]⟩], .string⟩ .nil .nil) .nil))) (.node 18 ⟨1, 8, [.pointer none], (.struct [(0, 1)])⟩ (.node 15 ⟨1, 8, [.pointer none], .other⟩ (.node 14 ⟨2, 24, [.string ⟨#[]⟩, .int .u64 0], (.struct [(0, 1), (1, 1)])⟩ (.node 13 ⟨2, 24, [.string ⟨#[]⟩, .int .u64 0], (.struct [(0, 1), (1, 1)])⟩ .nil .nil) .nil) (.node 17 ⟨1, 8, [.pointer none], .other⟩ (.node 16 ⟨1, 8, [.pointer none], .other⟩ .nil .nil) .nil)) (.node 21 ⟨1, 4, [.int .i32 0], (.int .i32)⟩ (.node 20 ⟨1, 16, [.nilIface], .other⟩ (.node 19 ⟨1, 8, [.pointer none], (.struct [(0, 1)])⟩ .nil .nil) .nil) (.node 23 ⟨4, 56, [.int .i64 0, .int .i64 0, .string ⟨#[]⟩, .slice none 0 0], (.struct [(0, 1), (1, 1), (2, 1), (3, 1)])⟩ (.node 22 ⟨1, 24, [.slice none 0 0], (.slice 24)⟩ .nil .nil) .nil)))) (.node 38 ⟨9, 104, [.int .i64 0, .int .i64 0, .int .i64 0, .int .i64 0, .string ⟨#[]⟩, .int .i64 0, .int .i64 0, .string ⟨#[]⟩, .slice none 0 0], (.struct [(0, 1), (1, 1), (2, 1), (3, 1), (4, 1), (5, 4)])⟩ (.node 31 ⟨1, 8, [.nilFunc], .other⟩ (.node 27 ⟨1, 24, [.slice none 0 0], (.slice 5)⟩ (.node 26 ⟨1, 8, [.nilFunc], .other⟩ (.node 25 ⟨1, 8, [.nilFunc], .other⟩ .nil .nil) .nil) (.node 30 ⟨1, 8, [.nilFunc], .other⟩ (.node 28 ⟨1, 8, [.int .i64 0], (.int .i64)⟩ .nil .nil) .nil)) (.node 35 ⟨1, 8, [.nilFunc], .other⟩ (.node 34 ⟨1, 8, [.nilFunc], .other⟩ (.node 32 ⟨1, 8, [.nilFunc], .other⟩ .nil .nil) .nil) (.node 37 ⟨9, 104, [.int .i64 0, .int .i64 0, .int .i64 0, .int .i64 0, .string ⟨#[]⟩, .int .i64 0, .int .i64 0, .string ⟨#[]⟩, .slice none 0 0], (.struct [(0, 1), (1, 1), (2, 1), (3, 1), (4, 1), (5, 4)])⟩ (.node 36 ⟨1, 8, [.nilFunc], .other⟩ .nil .nil) .nil))) (.node 45 ⟨1, 24, [.slice none 0 0], (.slice 163)⟩ (.node 42 ⟨1, 8, [.nilFunc], .other⟩ (.node 41 ⟨1, 8, [.nilFunc], .other⟩ (.node 40 ⟨1, 8, [.nilFunc], .other⟩ .nil .nil) .nil) (.node 44 ⟨1, 8, [.nilFunc], .other⟩ (.node 43 ⟨1, 8, [.nilFunc], .other⟩ .nil .nil) .nil)) (.node 49 ⟨1, 8, [.nilFunc], .other⟩ (.node 47 ⟨3, 64, [.string ⟨#[]⟩, .slice none 0 0, .slice none 0 0], (.struct [(0, 1), (1, 1), (2, 1)])⟩ (.node 46 ⟨3, 64, [.string ⟨#[]⟩, .slice none 0 0, .slice none 0 0], (.struct [(0, 1), (1, 1), (2, 1)])⟩ .nil .nil) .nil) (.node 51 ⟨1, 8, [.nilFunc], .other⟩ (.node 50 ⟨1, 8, [.nilFunc], .other⟩ .nil .nil) .nil))))) (.node 78 ⟨1, 8, [.nilFunc], .other⟩ (.node 65 ⟨1, 8, [.nilFunc], .other⟩ (.node 58 ⟨8, 152, [.int .i64 0, .string ⟨#[]⟩, .slice none 0 0, .slice none 0 0, .slice none 0 0, .int .i64 0, .slice none 0 0, .slice none 0 0], (.struct [(0, 1), (1, 3), (4, 1), (5, 1), (6, 1), (7, 1)])⟩ (.node 55 ⟨1, 24, [.slice none 0 0], (.slice 38)⟩ (.node 54 ⟨1, 8, [.nilFunc], .other⟩ (.node 53 ⟨1, 8, [.nilFunc], .other⟩ .nil .nil) .nil) (.node 57 ⟨8, 152, [.int .i64 0, .string ⟨#[]⟩, .slice none 0 0, .slice none 0 0, .slice none 0 0, .int .i64 0, .slice none 0 0, .slice none 0 0], (.struct [(0, 1), (1, 3), (4, 1), (5, 1), (6, 1), (7, 1)])⟩ (.node 56 ⟨1, 24, [.slice none 0 0], (.slice 3)⟩ .nil .nil) .nil)) (.node 62 ⟨1, 8, [.nilFunc], .other⟩ (.node 61 ⟨1, 8, [.nilFunc], .other⟩ (.node 60 ⟨1, 8, [.nilFunc], .other⟩ .nil .nil) .nil) (.node 64 ⟨1, 8, [.nilFunc], .other⟩ (.node 63 ⟨1, 8, [.nilFunc], .other⟩ .nil .nil) .nil))) (.node 71 ⟨1, 8, [.nilFunc], .other⟩ (.node 68 ⟨3, 56, [.int .i64 0, .slice none 0 0, .slice none 0 0], (.struct [(0, 1), (1, 1), (2, 1)])⟩ (.node 67 ⟨1, 24, [.slice none 0 0], (.slice 183)⟩ (.node 66 ⟨1, 24, [.slice none 0 0], (.slice 58)⟩ .nil .nil) .nil) (.node 70 ⟨1, 8, [.nilFunc], .other⟩ (.node 69 ⟨3, 56, [.int .i64 0, .slice none 0 0, .slice none 0 0], (.struct [(0, 1), (1, 1), (2, 1)])⟩ .nil .nil) .nil)) (.node 74 ⟨1, 24, [.slice none 0 0], (.slice 83)⟩ (.node 73 ⟨1, 24, [.slice none 0 0], (.slice 80)⟩ (.node 72 ⟨1, 8, [.nilFunc], .other⟩ .nil .nil) .nil) (.node 76 ⟨5, 88, [.bool false, .slice none 0 0, .slice none 0 0, .slice none 0 0, .int .i64 0], (.struct [(0, 1), (1, 1), (2, 1), (3, 1), (4, 1)])⟩ (.node 75 ⟨5, 88, [.bool false, .slice none 0 0, .slice none 0 0, .slice none 0 0, .int .i64 0], (.struct [(0, 1), (1, 1), (2, 1), (3, 1), (4, 1)])⟩ .nil .nil) .nil)))) (.node 90 ⟨1, 24, [.slice none 0 0], (.slice 220)⟩ (.node 84 ⟨1, 8, [.nilFunc], .other⟩ (.node 81 ⟨1, 8, [.nilFunc], .other⟩ (.node 80 ⟨4, 32, [.int .i64 0, .int .i64 0, .int .i64 0, .int .i64 0], (.struct [(0, 1), (1, 1), (2, 1), (3, 1)])⟩ (.node 79 ⟨4, 32, [.int .i64 0, .int .i64 0, .int .i64 0, .int .i64 0], (.struct [(0, 1), (1, 1), (2, 1), (3, 1)])⟩ .nil .nil) .nil) (.node 83 ⟨1, 24, [.slice none 0 0], (.slice 56)⟩ (.node 82 ⟨1, 8, [.nilFunc], .other⟩ .nil .nil) .nil)) (.node 87 ⟨1, 24, [.slice none 0 0], (.slice 411)⟩ (.node 86 ⟨1, 8, [.nilFunc], .other⟩ (.node 85 ⟨1, 8, [.nilFunc], .other⟩ .nil .nil) .nil) (.node 89 ⟨1, 24, [.slice none 0 0], (.slice 218)⟩ (.node 88 ⟨1, 24, [.slice none 0 0], (.slice 213)⟩ .nil .nil) .nil))) (.node 96 ⟨3, 48, [.int .i64 0, .string ⟨#[]⟩, .slice none 0 0], (.struct [(0, 1), (1, 1), (2, 1)])⟩ (.node 93 ⟨8, 168, [.string ⟨#[]⟩, .int .i64 0, .slice none 0 0, .slice none 0 0, .slice none 0 0, .slice none 0 0, .slice none 0 0, .slice none 0 0], (.struct [(0, 1), (1, 1), (2, 1), (3, 1), (4, 1), (5, 1), (6, 1), (7, 1)])⟩ (.node 92 ⟨1, 24, [.slice none 0 0], (.slice 104)⟩ (.node 91 ⟨1, 24, [.slice none 0 0], (.slice 299)⟩ .nil .nil) .nil) (.node 95 ⟨1, 24, [.slice none 0 0], (.slice 97)⟩ (.node 94 ⟨8, 168, [.string ⟨#[]⟩, .int .i64 0, .slice none 0 0, .slice none 0 0, .slice none 0 0, .slice none 0 0, .slice none 0 0, .slice none 0 0], (.struct [(0, 1), (1, 1), (2, 1), (3, 1), (4, 1), (5, 1), (6, 1), (7, 1)])⟩ .nil .nil) .nil)) (.node 99 ⟨1, 24, [.slice none 0 0], (.slice 102)⟩ (.node 98 ⟨1, 24, [.slice none 0 0], (.slice 9)⟩ (.node 97 ⟨3, 48, [.int .i64 0, .string ⟨#[]⟩, .slice none 0 0], (.struct [(0, 1), (1, 1), (2, 1)])⟩ .nil .nil) .nil) (.node 101 ⟨8, 136, [.int .i64 0, .int .i64 0, .string ⟨#[]⟩, .slice none 0 0, .slice none 0 0, .slice none 0 0, .slice none 0 0, .int .i64 0], (.struct [(0, 1), (1, 1), (2, 1), (3, 1), (4, 1), (5, 1), (6, 1), (7, 1)])⟩ (.node 100 ⟨1, 24, [.slice none 0 0], (.slice 304)⟩ .nil .nil) .nil)))))) (.node 155 ⟨1, 8, [.nilFunc], .other⟩ (.node 130 ⟨1, 8, [.nilFunc], .other⟩ (.node 116 ⟨3, 32, [.int .i64 0, .int .i64 0, .string ⟨#[]⟩], (.struct [(0, 1), (1, 1), (2, 1)])⟩ (.node 109 ⟨1, 8, [.nilFunc], .other⟩ (.node 105 ⟨1, 24, [.slice none 0 0], (.slice 207)⟩ (.node 104 ⟨14, 248, [.string ⟨#[]⟩, .slice none 0 0, .slice none 0 0, .int .i64 0, .string ⟨#[]⟩, .slice none 0 0, .int .i64 0, .int .i64 0, .string ⟨#[]⟩, .slice none 0 0, .slice none 0 0, .slice none 0 0, .slice none 0 0, .int .i64 0], (.struct [(0, 1), (1, 1), (2, 1), (3, 3), (6, 8)])⟩ (.node 103 ⟨14, 248, [.string ⟨#[]⟩, .slice none 0 0, .slice none 0 0, .int .i64 0, .string ⟨#[]⟩, .slice none 0 0, .int .i64 0, .int .i64 0, .string ⟨#[]⟩, .slice none 0 0, .slice none 0 0, .slice none 0 0, .slice none 0 0, .int .i64 0], (.struct [(0, 1), (1, 1), (2, 1), (3, 3), (6, 8)])⟩ .nil .nil) .nil) (.node 107 ⟨1, 24, [.slice none 0 0], (.struct [(0, 1)])⟩ (.node 106 ⟨1, 24, [.slice none 0 0], (.struct [(0, 1)])⟩ .nil .nil) .nil)) (.node 112 ⟨1, 8, [.nilFunc], .other⟩ (.node 111 ⟨1, 8, [.nilFunc], .other⟩ (.node 110 ⟨1, 8, [.nilFunc], .other⟩ .nil .nil) .nil) (.node 115 ⟨1, 8, [.nilFunc], .other⟩ (.node 113 ⟨1, 24, [.slice none 0 0], (.slice 117)⟩ .nil .nil) .nil))) (.node 123 ⟨1, 24, [.slice none 0 0], (.slice 199)⟩ (.node 119 ⟨1, 8, [.nilFunc], .other⟩ (.node 118 ⟨1, 8, [.nilFunc], .other⟩ (.node 117 ⟨3, 32, [.int .i64 0, .int .i64 0, .string ⟨#[]⟩], (.struct [(0, 1), (1, 1), (2, 1)])⟩ .nil .nil) .nil) (.node 122 ⟨1, 8, [.nilFunc], .other⟩ (.node 120 ⟨1, 24, [.slice none 0 0], (.slice 129)⟩ .nil .nil) .nil)) (.node 127 ⟨1, 8, [.nilFunc], .other⟩ (.node 126 ⟨1, 8, [.nilFunc], .other⟩ (.node 125 ⟨1, 8, [.nilFunc], .other⟩ .nil .nil) .nil) (.node 129 ⟨2, 16, [.int .i64 0, .int .i64 0], (.struct [(0, 1), (1, 1)])⟩ (.node 128 ⟨2, 16, [.int .i64 0, .int .i64 0], (.struct [(0, 1), (1, 1)])⟩ .nil .nil) .nil)))) (.node 143 ⟨1, 8, [.nilFunc], .other⟩ (.node 137 ⟨1, 8, [.nilFunc], .other⟩ (.node 134 ⟨1, 8, [.nilFunc], .other⟩ (.node 133 ⟨1, 8, [.nilFunc], .other⟩ (.node 131 ⟨1, 8, [.nilFunc], .other⟩ .nil .nil) .nil) (.node 136 ⟨1, 8, [.nilFunc], .other⟩ (.node 135 ⟨1, 8, [.nilFunc], .other⟩ .nil .nil) .nil)) (.node 140 ⟨5, 64, [.int .i64 0, .int .i64 0, .string ⟨#[]⟩, .slice none 0 0, .int .i64 0], (.struct [(0, 4), (4, 1)])⟩ (.node 139 ⟨1, 8, [.pointer none], .other⟩ (.node 138 ⟨1, 8, [.nilFunc], .other⟩ .nil .nil) .nil) (.node 142 ⟨1, 24, [.slice none 0 0], (.slice 141)⟩ (.node 141 ⟨5, 64, [.int .i64 0, .int .i64 0, .string ⟨#[]⟩, .slice none 0 0, .int .i64 0], (.struct [(0, 4), (4, 1)])⟩ .nil .nil) .nil))) (.node 149 ⟨2, 32, [.slice none 0 0, .bool false], (.struct [(0, 1), (1, 1)])⟩ (.node 146 ⟨1, 8, [.nilFunc], .other⟩ (.node 145 ⟨1, 8, [.nilFunc], .other⟩ (.node 144 ⟨1, 8, [.nilFunc], .other⟩ .nil .nil) .nil) (.node 148 ⟨1, 8, [.pointer none], .other⟩ (.node 147 ⟨1, 8, [.pointer none], .other⟩ .nil .nil) .nil)) (.node 152 ⟨1, 8, [.nilFunc], .other⟩ (.node 151 ⟨1, 8, [.nilFunc], .other⟩ (.node 150 ⟨2, 32, [.slice none 0 0, .bool false], (.struct [(0, 1), (1, 1)])⟩ .nil .nil) .nil) (.node 154 ⟨1, 8, [.nilFunc], .other⟩ (.node 153 ⟨1, 8, [.nilFunc], .other⟩ .nil .nil) .nil))))) (.node 179 ⟨1, 8, [.nilFunc], .other⟩ (.node 167 ⟨1, 8, [.nilFunc], .other⟩ (.node 161 ⟨1, 8, [.nilFunc], .other⟩ (.node 158 ⟨1, 8, [.nilFunc], .other⟩ (.node 157 ⟨1, 8, [.nilFunc], .other⟩ (.node 156 ⟨1, 8, [.nilFunc], .other⟩ .nil .nil) .nil) (.node 160 ⟨1, 8, [.nilFunc], .other⟩ (.node 159 ⟨1, 8, [.nilFunc], .other⟩ .nil .nil) .nil)) (.node 164 ⟨1, 8, [.nilFunc], .other⟩ (.node 163 ⟨5, 64, [.int .i64 0, .int .i64 0, .int .i64 0, .string ⟨#[]⟩, .slice none 0 0], (.struct [(0, 1), (1, 4)])⟩ (.node 162 ⟨5, 64, [.int .i64 0, .int .i64 0, .int .i64 0, .string ⟨#[]⟩, .slice none 0 0], (.struct [(0, 1), (1, 4)])⟩ .nil .nil) .nil) (.node 166 ⟨1, 8, [.nilFunc], .other⟩ (.node 165 ⟨1, 8, [.nilFunc], .other⟩ .nil .nil) .nil))) (.node 173 ⟨1, 8, [.nilFunc], .other⟩ (.node 170 ⟨1, 8, [.nilFunc], .other⟩ (.node 169 ⟨1, 8, [.nilFunc], .other⟩ (.node 168 ⟨1, 8, [.nilFunc], .other⟩ .nil .nil) .nil) (.node 172 ⟨1, 8, [.nilFunc], .other⟩ (.node 171 ⟨1, 8, [.nilFunc], .other⟩ .nil .nil) .nil)) (.node 176 ⟨1, 8, [.nilFunc], .other⟩ (.node 175 ⟨1, 8, [.nilFunc], .other⟩ (.node 174 ⟨1, 8, [.nilFunc], .other⟩ .nil .nil) .nil) (.node 178 ⟨1, 8, [.nilFunc], .other⟩ (.node 177 ⟨1, 8, [.int .u64 0], (.int .u64)⟩ .nil .nil) .nil)))) (.node 191 ⟨1, 8, [.pointer none], .other⟩ (.node 185 ⟨1, 8, [.nilFunc], .other⟩ (.node 182 ⟨3, 40, [.int .i64 0, .int .i64 0, .slice none 0 0], (.struct [(0, 1), (1, 1), (2, 1)])⟩ (.node 181 ⟨1, 8, [.nilFunc], .other⟩ (.node 180 ⟨1, 8, [.nilFunc], .other⟩ .nil .nil) .nil) (.node 184 ⟨1, 8, [.nilFunc], .other⟩ (.node 183 ⟨3, 40, [.int .i64 0, .int .i64 0, .slice none 0 0], (.struct [(0, 1), (1, 1), (2, 1)])⟩ .nil .nil) .nil)) (.node 188 ⟨1, 8, [.nilFunc], .other⟩ (.node 187 ⟨1, 24, [.slice none 0 0], (.slice 27)⟩ (.node 186 ⟨1, 8, [.nilFunc], .other⟩ .nil .nil) .nil) (.node 190 ⟨1, 8, [.nilFunc], .other⟩ (.node 189 ⟨1, 8, [.nilFunc], .other⟩ .nil .nil) .nil))) (.node 197 ⟨5, 56, [.slice none 0 0, .int .i64 0, .int .i64 0, .bool false, .int .i64 0], (.struct [(0, 1), (1, 1), (2, 1), (3, 1), (4, 1)])⟩ (.node 194 ⟨1, 8, [.nilFunc], .other⟩ (.node 193 ⟨1, 8, [.nilFunc], .other⟩ (.node 192 ⟨1, 8, [.nilFunc], .other⟩ .nil .nil) .nil) (.node 196 ⟨1, 8, [.pointer none], .other⟩ (.node 195 ⟨1, 8, [.map none], .other⟩ .nil .nil) .nil)) (.node 200 ⟨1, 24, [.slice none 0 0], (.slice 4)⟩ (.node 199 ⟨2, 16, [.int .i64 0, .int .i64 0], (.array 2 3)⟩ (.node 198 ⟨5, 56, [.slice none 0 0, .int .i64 0, .int .i64 0, .bool false, .int .i64 0], (.struct [(0, 1), (1, 1), (2, 1), (3, 1), (4, 1)])⟩ .nil .nil) .nil) (.node 201 ⟨1, 8, [.nilFunc], .other⟩ .nil .nil))))))) (.node 303 ⟨12, 192, [.int .i64 0, .int .i64 0, .string ⟨#[]⟩, .slice none 0 0, .int .i64 0, .int .i64 0, .string ⟨#[]⟩, .slice none 0 0, .slice none 0 0, .slice none 0 0, .slice none 0 0, .int .i64 0], (.struct [(0, 4), (4, 8)])⟩ (.node 254 ⟨1, 8, [.nilFunc], .other⟩ (.node 228 ⟨1, 8, [.nilFunc], .other⟩ (.node 216 ⟨1, 8, [.nilFunc], .other⟩ (.node 210 ⟨1, 8, [.nilFunc], .other⟩ (.node 206 ⟨4, 72, [.string ⟨#[]⟩, .int .i64 0, .slice none 0 0, .slice none 0 0], (.struct [(0, 1), (1, 1), (2, 1), (3, 1)])⟩ (.node 205 ⟨1, 24, [.slice none 0 0], (.slice 225)⟩ (.node 204 ⟨1, 8, [.nilFunc], .other⟩ .nil .nil) .nil) (.node 209 ⟨1, 8, [.nilFunc], .other⟩ (.node 207 ⟨4, 72, [.string ⟨#[]⟩, .int .i64 0, .slice none 0 0, .slice none 0 0], (.struct [(0, 1), (1, 1), (2, 1), (3, 1)])⟩ .nil .nil) .nil)) (.node 213 ⟨3, 64, [.string ⟨#[]⟩, .slice none 0 0, .slice none 0 0], (.struct [(0, 1), (1, 1), (2, 1)])⟩ (.node 212 ⟨3, 64, [.string ⟨#[]⟩, .slice none 0 0, .slice none 0 0], (.struct [(0, 1), (1, 1), (2, 1)])⟩ (.node 211 ⟨1, 24, [.slice none 0 0], (.slice 215)⟩ .nil .nil) .nil) (.node 215 ⟨2, 40, [.string ⟨#[]⟩, .slice none 0 0], (.struct [(0, 1), (1, 1)])⟩ (.node 214 ⟨2, 40, [.string ⟨#[]⟩, .slice none 0 0], (.struct [(0, 1), (1, 1)])⟩ .nil .nil) .nil))) (.node 222 ⟨1, 8, [.nilFunc], .other⟩ (.node 219 ⟨3, 56, [.string ⟨#[]⟩, .string ⟨#[]⟩, .slice none 0 0], (.struct [(0, 1), (1, 1), (2, 1)])⟩ (.node 218 ⟨2, 40, [.string ⟨#[]⟩, .slice none 0 0], (.struct [(0, 1), (1, 1)])⟩ (.node 217 ⟨2, 40, [.string ⟨#[]⟩, .slice none 0 0], (.struct [(0, 1), (1, 1)])⟩ .nil .nil) .nil) (.node 221 ⟨1, 8, [.nilFunc], .other⟩ (.node 220 ⟨3, 56, [.string ⟨#[]⟩, .string ⟨#[]⟩, .slice none 0 0], (.struct [(0, 1), (1, 1), (2, 1)])⟩ .nil .nil) .nil)) (.node 225 ⟨5, 64, [.int .i64 0, .int .i64 0, .int .i64 0, .string ⟨#[]⟩, .slice none 0 0], (.struct [(0, 1), (1, 4)])⟩ (.node 224 ⟨5, 64, [.int .i64 0, .int .i64 0, .int .i64 0, .string ⟨#[]⟩, .slice none 0 0], (.struct [(0, 1), (1, 4)])⟩ (.node 223 ⟨1, 8, [.map none], .other⟩ .nil .nil) .nil) (.node 227 ⟨1, 8, [.nilFunc], .other⟩ (.node 226 ⟨1, 8, [.nilFunc], .other⟩ .nil .nil) .nil)))) (.node 240 ⟨1, 16, [.nilIface], .other⟩ (.node 234 ⟨2, 32, [.pointer none, .slice none 0 0], (.struct [(0, 1), (1, 1)])⟩ (.node 231 ⟨1, 8, [.map none], .other⟩ (.node 230 ⟨1, 8, [.nilFunc], .other⟩ (.node 229 ⟨1, 8, [.nilFunc], .other⟩ .nil .nil) .nil) (.node 233 ⟨1, 8, [.pointer none], .other⟩ (.node 232 ⟨1, 8, [.nilFunc], .other⟩ .nil .nil) .nil)) (.node 237 ⟨5, 32, [.int .i64 0, .int .i64 0, .bool false, .bool false, .int .i64 0], (.struct [(0, 1), (1, 1), (2, 1), (3, 1), (4, 1)])⟩ (.node 236 ⟨5, 32, [.int .i64 0, .int .i64 0, .bool false, .bool false, .int .i64 0], (.struct [(0, 1), (1, 1), (2, 1), (3, 1), (4, 1)])⟩ (.node 235 ⟨2, 32, [.pointer none, .slice none 0 0], (.struct [(0, 1), (1, 1)])⟩ .nil .nil) .nil) (.node 239 ⟨1, 16, [.nilIface], .other⟩ (.node 238 ⟨1, 24, [.slice none 0 0], (.slice 237)⟩ .nil .nil) .nil))) (.node 248 ⟨1, 8, [.nilFunc], .other⟩ (.node 244 ⟨1, 8, [.nilFunc], .other⟩ (.node 243 ⟨1, 8, [.nilFunc], .other⟩ (.node 242 ⟨1, 8, [.nilFunc], .other⟩ .nil .nil) .nil) (.node 246 ⟨1, 24, [.slice none 0 0], (.slice 318)⟩ (.node 245 ⟨1, 8, [.nilFunc], .other⟩ .nil .nil) .nil)) (.node 251 ⟨1, 8, [.nilFunc], .other⟩ (.node 250 ⟨1, 8, [.nilFunc], .other⟩ (.node 249 ⟨1, 8, [.nilFunc], .other⟩ .nil .nil) .nil) (.node 253 ⟨1, 8, [.nilFunc], .other⟩ (.node 252 ⟨1, 8, [.nilFunc], .other⟩ .nil .nil) .nil))))) (.node 278 ⟨1, 8, [.nilFunc], .other⟩ (.node 266 ⟨3, 40, [.slice none 0 0, .bool false, .int .i64 0], (.struct [(0, 2), (2, 1)])⟩ (.node 260 ⟨1, 8, [.nilFunc], .other⟩ (.node 257 ⟨1, 8, [.nilFunc], .other⟩ (.node 256 ⟨1, 8, [.nilFunc], .other⟩ (.node 255 ⟨1, 8, [.nilFunc], .other⟩ .nil .nil) .nil) (.node 259 ⟨1, 8, [.nilFunc], .other⟩ (.node 258 ⟨1, 8, [.nilFunc], .other⟩ .nil .nil) .nil)) (.node 263 ⟨2, 32, [.slice none 0 0, .bool false], (.struct [(0, 1), (1, 1)])⟩ (.node 262 ⟨1, 8, [.nilFunc], .other⟩ (.node 261 ⟨1, 8, [.nilFunc], .other⟩ .nil .nil) .nil) (.node 265 ⟨3, 40, [.slice none 0 0, .bool false, .int .i64 0], (.struct [(0, 2), (2, 1)])⟩ (.node 264 ⟨2, 32, [.slice none 0 0, .bool false], (.struct [(0, 1), (1, 1)])⟩ .nil .nil) .nil))) (.node 272 ⟨1, 8, [.nilFunc], .other⟩ (.node 269 ⟨1, 8, [.nilFunc], .other⟩ (.node 268 ⟨1, 8, [.pointer none], .other⟩ (.node 267 ⟨1, 8, [.nilFunc], .other⟩ .nil .nil) .nil) (.node 271 ⟨1, 8, [.nilFunc], .other⟩ (.node 270 ⟨1, 8, [.nilFunc], .other⟩ .nil .nil) .nil)) (.node 275 ⟨1, 8, [.nilFunc], .other⟩ (.node 274 ⟨1, 8, [.nilFunc], .other⟩ (.node 273 ⟨1, 8, [.nilFunc], .other⟩ .nil .nil) .nil) (.node 277 ⟨1, 8, [.nilFunc], .other⟩ (.node 276 ⟨1, 8, [.nilFunc], .other⟩ .nil .nil) .nil)))) (.node 292 ⟨1, 8, [.pointer none], .other⟩ (.node 284 ⟨1, 8, [.pointer none], .other⟩ (.node 281 ⟨1, 24, [.slice none 0 0], (.slice 284)⟩ (.node 280 ⟨1, 8, [.map none], .other⟩ (.node 279 ⟨1, 8, [.nilFunc], .other⟩ .nil .nil) .nil) (.node 283 ⟨3, 56, [.slice none 0 0, .slice none 0 0, .map none], (.struct [(0, 1), (1, 1), (2, 1)])⟩ (.node 282 ⟨3, 56, [.slice none 0 0, .slice none 0 0, .map none], (.struct [(0, 1), (1, 1), (2, 1)])⟩ .nil .nil) .nil)) (.node 288 ⟨1, 8, [.nilFunc], .other⟩ (.node 287 ⟨1, 8, [.nilFunc], .other⟩ (.node 286 ⟨1, 8, [.nilFunc], .other⟩ .nil .nil) .nil) (.node 291 ⟨1, 8, [.nilFunc], .other⟩ (.node 290 ⟨1, 8, [.nilFunc], .other⟩ .nil .nil) .nil))) (.node 298 ⟨15, 272, [.string ⟨#[]⟩, .slice none 0 0, .slice none 0 0, .slice none 0 0, .int .i64 0, .string ⟨#[]⟩, .slice none 0 0, .int .i64 0, .int .i64 0, .string ⟨#[]⟩, .slice none 0 0, .slice none 0 0, .slice none 0 0, .slice none 0 0, .int .i64 0], (.struct [(0, 1), (1, 1), (2, 1), (3, 1), (4, 3), (7, 8)])⟩ (.node 295 ⟨17, 344, [.string ⟨#[]⟩, .int .i64 0, .slice none 0 0, .slice none 0 0, .slice none 0 0, .slice none 0 0, .slice none 0 0, .slice none 0 0, .string ⟨#[]⟩, .int .i64 0, .slice none 0 0, .slice none 0 0, .slice none 0 0, .slice none 0 0, .slice none 0 0, .slice none 0 0, .map none], (.struct [(0, 8), (8, 8), (16, 1)])⟩ (.node 294 ⟨17, 344, [.string ⟨#[]⟩, .int .i64 0, .slice none 0 0, .slice none 0 0, .slice none 0 0, .slice none 0 0, .slice none 0 0, .slice none 0 0, .string ⟨#[]⟩, .int .i64 0, .slice none 0 0, .slice none 0 0, .slice none 0 0, .slice none 0 0, .slice none 0 0, .slice none 0 0, .map none], (.struct [(0, 8), (8, 8), (16, 1)])⟩ (.node 293 ⟨1, 8, [.map none], .other⟩ .nil .nil) .nil) (.node 297 ⟨1, 8, [.nilFunc], .other⟩ (.node 296 ⟨1, 8, [.nilFunc], .other⟩ .nil .nil) .nil)) (.node 301 ⟨4, 56, [.int .i64 0, .int .i64 0, .string ⟨#[]⟩, .slice none 0 0], (.struct [(0, 1), (1, 1), (2, 1), (3, 1)])⟩ (.node 300 ⟨1, 24, [.slice none 0 0], (.slice 302)⟩ (.node 299 ⟨15, 272, [.string ⟨#[]⟩, .slice none 0 0, .slice none 0 0, .slice none 0 0, .int .i64 0, .string ⟨#[]⟩, .slice none 0 0, .int .i64 0, .int .i64 0, .string ⟨#[]⟩, .slice none 0 0, .slice none 0 0, .slice none 0 0, .slice none 0 0, .int .i64 0], (.struct [(0, 1), (1, 1), (2, 1), (3, 1), (4, 3), (7, 8)])⟩ .nil .nil) .nil) (.node 302 ⟨4, 56, [.int .i64 0, .int .i64 0, .string ⟨#[]⟩, .slice none 0 0], (.struct [(0, 1), (1, 1), (2, 1), (3, 1)])⟩ .nil .nil)))))) (.node 360 ⟨1, 8, [.nilFunc], .other⟩ (.node 330 ⟨5, 88, [.slice none 0 0, .bool false, .int .i64 0, .slice none 0 0, .slice none 0 0], (.struct [(0, 1), (1, 1), (2, 1), (3, 1), (4, 1)])⟩ (.node 317 ⟨1, 8, [.nilFunc], .other⟩ (.node 310 ⟨3, 24, [.int .i64 0, .int .i64 0, .int .i64 0], (.struct [(0, 1), (1, 1), (2, 1)])⟩ (.node 306 ⟨1, 8, [.nilFunc], .other⟩ (.node 305 ⟨1, 8, [.nilFunc], .other⟩ (.node 304 ⟨12, 192, [.int .i64 0, .int .i64 0, .string ⟨#[]⟩, .slice none 0 0, .int .i64 0, .int .i64 0, .string ⟨#[]⟩, .slice none 0 0, .slice none 0 0, .slice none 0 0, .slice none 0 0, .int .i64 0], (.struct [(0, 4), (4, 8)])⟩ .nil .nil) .nil) (.node 309 ⟨1, 24, [.slice none 0 0], (.slice 311)⟩ (.node 308 ⟨1, 8, [.nilFunc], .other⟩ .nil .nil) .nil)) (.node 313 ⟨1, 8, [.int .u64 0], (.int .u64)⟩ (.node 312 ⟨1, 8, [.nilFunc], .other⟩ (.node 311 ⟨3, 24, [.int .i64 0, .int .i64 0, .int .i64 0], (.struct [(0, 1), (1, 1), (2, 1)])⟩ .nil .nil) .nil) (.node 316 ⟨1, 8, [.pointer none], .other⟩ (.node 315 ⟨1, 8, [.nilFunc], .other⟩ .nil .nil) .nil))) (.node 324 ⟨1, 8, [.nilFunc], .other⟩ (.node 320 ⟨5, 64, [.int .i64 0, .int .i64 0, .string ⟨#[]⟩, .slice none 0 0, .int .i64 0], (.struct [(0, 3), (3, 1), (4, 1)])⟩ (.node 319 ⟨5, 64, [.int .i64 0, .int .i64 0, .string ⟨#[]⟩, .slice none 0 0, .int .i64 0], (.struct [(0, 3), (3, 1), (4, 1)])⟩ (.node 318 ⟨1, 8, [.pointer none], .other⟩ .nil .nil) .nil) (.node 323 ⟨1, 8, [.nilFunc], .other⟩ (.node 322 ⟨1, 8, [.nilFunc], .other⟩ .nil .nil) .nil)) (.node 327 ⟨1, 8, [.nilFunc], .other⟩ (.node 326 ⟨1, 8, [.nilFunc], .other⟩ (.node 325 ⟨1, 8, [.nilFunc], .other⟩ .nil .nil) .nil) (.node 329 ⟨5, 88, [.slice none 0 0, .bool false, .int .i64 0, .slice none 0 0, .slice none 0 0], (.struct [(0, 1), (1, 1), (2, 1), (3, 1), (4, 1)])⟩ (.node 328 ⟨1, 8, [.nilFunc], .other⟩ .nil .nil) .nil)))) (.node 344 ⟨3, 56, [.slice none 0 0, .slice none 0 0, .pointer none], (.struct [(0, 1), (1, 1), (2, 1)])⟩ (.node 337 ⟨1, 8, [.nilFunc], .other⟩ (.node 334 ⟨1, 8, [.nilFunc], .other⟩ (.node 333 ⟨1, 8, [.nilFunc], .other⟩ (.node 331 ⟨1, 8, [.nilFunc], .other⟩ .nil .nil) .nil) (.node 336 ⟨1, 8, [.nilFunc], .other⟩ (.node 335 ⟨1, 8, [.nilFunc], .other⟩ .nil .nil) .nil)) (.node 340 ⟨1, 8, [.nilFunc], .other⟩ (.node 339 ⟨1, 8, [.nilFunc], .other⟩ (.node 338 ⟨1, 8, [.nilFunc], .other⟩ .nil .nil) .nil) (.node 343 ⟨1, 8, [.nilFunc], .other⟩ (.node 341 ⟨1, 8, [.pointer none], .other⟩ .nil .nil) .nil))) (.node 353 ⟨1, 8, [.nilFunc], .other⟩ (.node 348 ⟨1, 4, [.int .u32 0], (.int .u32)⟩ (.node 347 ⟨1, 8, [.nilFunc], .other⟩ (.node 345 ⟨3, 56, [.slice none 0 0, .slice none 0 0, .pointer none], (.struct [(0, 1), (1, 1), (2, 1)])⟩ .nil .nil) .nil) (.node 352 ⟨1, 8, [.nilFunc], .other⟩ (.node 350 ⟨1, 8, [.nilFunc], .other⟩ .nil .nil) .nil)) (.node 357 ⟨1, 8, [.nilFunc], .other⟩ (.node 356 ⟨1, 8, [.nilFunc], .other⟩ (.node 354 ⟨1, 8, [.int .i64 0], (.int .i64)⟩ .nil .nil) .nil) (.node 359 ⟨1, 8, [.nilFunc], .other⟩ (.node 358 ⟨1, 8, [.nilFunc], .other⟩ .nil .nil) .nil))))) (.node 388 ⟨1, 8, [.nilFunc], .other⟩ (.node 373 ⟨1, 8, [.nilFunc], .other⟩ (.node 366 ⟨1, 8, [.nilFunc], .other⟩ (.node 363 ⟨1, 8, [.nilFunc], .other⟩ (.node 362 ⟨1, 8, [.nilFunc], .other⟩ (.node 361 ⟨1, 8, [.nilFunc], .other⟩ .nil .nil) .nil) (.node 365 ⟨1, 8, [.nilFunc], .other⟩ (.node 364 ⟨1, 8, [.nilFunc], .other⟩ .nil .nil) .nil)) (.node 370 ⟨1, 8, [.nilFunc], .other⟩ (.node 369 ⟨1, 8, [.nilFunc], .other⟩ (.node 367 ⟨1, 8, [.nilFunc], .other⟩ .nil .nil) .nil) (.node 372 ⟨1, 8, [.nilFunc], .other⟩ (.node 371 ⟨1, 8, [.nilFunc], .other⟩ .nil .nil) .nil))) (.node 382 ⟨1, 8, [.nilFunc], .other⟩ (.node 377 ⟨1, 8, [.nilFunc], .other⟩ (.node 376 ⟨1, 8, [.nilFunc], .other⟩ (.node 374 ⟨1, 8, [.pointer none], .other⟩ .nil .nil) .nil) (.node 381 ⟨1, 8, [.nilFunc], .other⟩ (.node 379 ⟨1, 8, [.nilFunc], .other⟩ .nil .nil) .nil)) (.node 385 ⟨1, 8, [.nilFunc], .other⟩ (.node 384 ⟨1, 8, [.nilFunc], .other⟩ (.node 383 ⟨1, 8, [.nilFunc], .other⟩ .nil .nil) .nil) (.node 387 ⟨1, 8, [.nilFunc], .other⟩ (.node 386 ⟨1, 8, [.int .u64 0], (.int .u64)⟩ .nil .nil) .nil)))) (.node 401 ⟨0, 0, [], (.struct [(0, 0)])⟩ (.node 394 ⟨1, 8, [.nilFunc], .other⟩ (.node 391 ⟨3, 56, [.slice none 0 0, .slice none 0 0, .pointer none], (.struct [(0, 1), (1, 1), (2, 1)])⟩ (.node 390 ⟨1, 8, [.nilFunc], .other⟩ (.node 389 ⟨1, 8, [.nilFunc], .other⟩ .nil .nil) .nil) (.node 393 ⟨1, 8, [.nilFunc], .other⟩ (.node 392 ⟨3, 56, [.slice none 0 0, .slice none 0 0, .pointer none], (.struct [(0, 1), (1, 1), (2, 1)])⟩ .nil .nil) .nil)) (.node 398 ⟨4, 40, [.pointer none, .pointer none, .pointer none, .string ⟨#[]⟩], (.struct [(0, 1), (1, 1), (2, 1), (3, 1)])⟩ (.node 397 ⟨1, 8, [.nilFunc], .other⟩ (.node 395 ⟨1, 8, [.pointer none], .other⟩ .nil .nil) .nil) (.node 400 ⟨0, 0, [], (.array 0 16)⟩ (.node 399 ⟨4, 40, [.pointer none, .pointer none, .pointer none, .string ⟨#[]⟩], (.struct [(0, 1), (1, 1), (2, 1), (3, 1)])⟩ .nil .nil) .nil))) (.node 407 ⟨1, 4, [.int .i32 0], (.int .i32)⟩ (.node 404 ⟨1, 1, [.int .u8 0], (.int .u8)⟩ (.node 403 ⟨1, 1, [.int .u8 0], (.int .u8)⟩ (.node 402 ⟨0, 0, [], (.struct [(0, 0)])⟩ .nil .nil) .nil) (.node 406 ⟨1, 4, [.int .i32 0], (.int .i32)⟩ (.node 405 ⟨1, 8, [.nilFunc], .other⟩ .nil .nil) .nil)) (.node 410 ⟨3, 32, [.string ⟨#[]⟩, .int .i64 0, .int .i64 0], (.struct [(0, 1), (1, 1), (2, 1)])⟩ (.node 409 ⟨11, 48, [.int .u64 0, .int .u64 0, .int .u32 0, .int .u8 0, .int .u8 0, .int .u8 0, .int .u8 0, .nilFunc, .pointer none, .int .i32 0, .int .i32 0], (.struct [(0, 1), (1, 1), (2, 1), (3, 1), (4, 1), (5, 1), (6, 1), (7, 1), (8, 1), (9, 1), (10, 1)])⟩ (.node 408 ⟨11, 48, [.int .u64 0, .int .u64 0, .int .u32 0, .int .u8 0, .int .u8 0, .int .u8 0, .int .u8 0, .nilFunc, .pointer none, .int .i32 0, .int .i32 0], (.struct [(0, 1), (1, 1), (2, 1), (3, 1), (4, 1), (5, 1), (6, 1), (7, 1), (8, 1), (9, 1), (10, 1)])⟩ .nil .nil) .nil) (.node 411 ⟨3, 32, [.string ⟨#[]⟩, .int .i64 0, .int .i64 0], (.struct [(0, 1), (1, 1), (2, 1)])⟩ .nil .nil))))))))
set_option maxRecDepth 100000 in
theorem tabOkB : tab.okB Try.prog = true := by kernel_rfl
theorem tok : TabOk Try.prog tab := tab_ok tabOkB
end Go.Proofs.Ythgackidonocpaa
namespace Go.Proofs.Ythgackidonocpaa
open Go.RowKit
/-- a number in groups of seven bits -/
def uv (n : Nat) : List UInt8 := if h : n < 128 then [UInt8.ofNat n] else UInt8.ofNat (n % 128 + 128) :: uv (n / 128)
theorem uv_small {n : Nat} (h : n < 128) : uv n = [UInt8.ofNat n] := by rw [uv, dif_pos h]
theorem uv_big {n : Nat} (h : ¬ n < 128) : uv n = UInt8.ofNat (n % 128 + 128) :: uv (n / 128) := by rw [uv, dif_neg h]
theorem uv_len : ∀ (k n : Nat), n < 128 ^ k → (uv n).length ≤ max k 1
  | 0, n, h => by
    have : n = 0 := by simpa using h
    subst this
    rw [uv_small (by omega)]
    simp
  | k + 1, n, h => by
    by_cases hn : n < 128
    · rw [uv_small hn]; simp
    · rw [uv_big hn]
      have h1 : n / 128 < 128 ^ k := by
        rw [Nat.div_lt_iff_lt_mul (by omega)]
        rwa [Nat.pow_succ] at h
      have h2 := uv_len k (n / 128) h1
      have h3 : 0 < k := by
        rcases Nat.eq_zero_or_pos k with rfl | hk
        · simp at h1; omega
        · exact hk
      simp only [List.length_cons]
      omega
theorem uv_len64 {n : Nat} (h : n < 2 ^ 64) : (uv n).length ≤ 10 := by
  have := uv_len 10 n (by have : (2 : Nat) ^ 64 ≤ 128 ^ 10 := by decide
                          omega)
  simpa using this
theorem u8_of {n : Nat} (h : n < 256) : T.lit (.int .u8 ((n : Nat) : Int)) = bytT (UInt8.ofNat n) := by
  unfold bytT
  rw [UInt8.toNat_ofNat', Nat.mod_eq_of_lt (by simpa using h)]
theorem or128 : ∀ x : Nat, x < 256 → x ||| 128 = x % 128 + 128 := by decide +kernel
theorem wrap_u8 (u : Nat) : IntKind.u8.wrap (u : Int) = ((u % 256 : Nat) : Int) := by
  simp [IntKind.wrap, IntKind.bits, IntKind.signed]
theorem or_u8 (u : Nat) : IntKind.u8.wrap ((((u % 256 : Nat) : Int) % 2 ^ IntKind.u8.bits).toNat ||| ((128 : Int) % 2 ^ IntKind.u8.bits).toNat : Nat) = ((u % 128 + 128 : Nat) : Int) := by
  have h1 : ((((u % 256 : Nat) : Int) % 2 ^ IntKind.u8.bits).toNat ||| ((128 : Int) % 2 ^ IntKind.u8.bits).toNat : Nat) = u % 128 + 128 := by
    have h2 : (((u % 256 : Nat) : Int) % 2 ^ IntKind.u8.bits).toNat = u % 256 := by simp [IntKind.bits]; omega
    have h3 : ((128 : Int) % 2 ^ IntKind.u8.bits).toNat = 128 := rfl
    rw [h2, h3, or128 _ (by omega)]
    omega
  rw [h1, wrap_u8]
  congr 1
  omega
theorem shr7 (u : Nat) : (u : Int).fdiv (2 ^ (min (7 : Int).toNat IntKind.u64.bits)) = ((u / 128 : Nat) : Int) := by
  have : (2 : Int) ^ (min (7 : Int).toNat IntKind.u64.bits) = 128 := rfl
  rw [this, Int.fdiv_eq_ediv_of_nonneg _ (by omega)]
  omega
/-- what an own row of bytes is once more bytes were appended -/
def Grew (e : TypeId) (l : List UInt8) (r : AV) (hs : List Blk) : Prop := ∃ v', r = .own 0 v' ∧ hs = [.row v' e 1 l.length (byts l)]
set_option maxRecDepth 100000 in
set_option maxHeartbeats 2000000 in
theorem unsigned_ag (v : Value) (l : List UInt8) (n : Nat) (hn : n < 2 ^ 64) (hl : l.length ≤ 1099511627776) :
    AG Try.prog 206 [.own 0 v, .c (.lit (.int .u64 (n : Int)))] [.row v 5 1 l.length (byts l)] (Grew 5 (l ++ uv n)) := by
  have hul := uv_len64 hn
  refine ag_enter 1 tok Try.func206 Try.ntmps206 Try.results206 rfl (by kernel_rfl) rfl fun F => ?_
  repeat (first | refine gG ?_ | refine zAp (fun _ => ?_))
  refine x_loop [0, 1, 5, 6, 7, 8, 9, 10, 11, 12, 13, 14] (fun y : Nat × List UInt8 × Value => [(1, .c (.lit (.int .u64 (y.1 : Int)))), (0, .own 0 y.2.2)]) (fun y => [.row y.2.2 5 1 y.2.1.length (byts y.2.1)])
    (fun y => y.1 < 2 ^ 64 ∧ y.2.1 ++ uv y.1 = l ++ uv n) (fun y => y.1) (n, l, v) ⟨hn, rfl⟩ ⟨rfl, rfl, trivial⟩ rfl ?_
  rintro ⟨u, l', v'⟩ ⟨hu, hinv⟩
  dsimp only at hu hinv ⊢
  have hlen : l'.length + (uv u).length ≤ 1099511627786 := by
    have := congrArg List.length hinv
    simp only [List.length_append] at this
    omega
  repeat (first | refine gG ?_ | refine zAp (fun _ => ?_))
  refine x_cond rfl (fun h => ?_) (fun h => ?_)
  · have hu' : ¬ u < 128 := by have : (128 : Int) ≤ (u : Int) := of_decide_eq_true h
                               omega
    rw [uv_big hu'] at hinv hlen
    simp only [List.length_cons] at hlen
    repeat (first | refine gG ?_ | refine zAp (fun _ => ?_))
    refine lo_conv tok rfl rfl rfl rfl (wrap_u8 u) ?_
    repeat (first | refine gG ?_ | refine zAp (fun _ => ?_))
    refine lo_or rfl rfl (or_u8 u) ?_
    repeat (first | refine gG ?_ | refine zAp (fun _ => ?_))
    refine lo_shr rfl rfl (by omega) (shr7 u) ?_
    repeat (first | refine gG ?_ | refine zAp (fun _ => ?_))
    exact ⟨(u / 128, l' ++ [UInt8.ofNat (u % 128 + 128)], _), ⟨by simp only; omega, by simpa using hinv⟩, by simp only; omega, x_wkd 1 ⟨rfl, rfl, trivial⟩ (by simp only [byts, List.map_append, List.map_cons, List.map_nil, ← u8_of (show u % 128 + 128 < 256 by omega), List.length_append, List.length_cons, List.length_nil]; rfl) (by repeat (first | exact ag_refl | refine ag_upd rfl ?_ | refine ag_at rfl rfl ?_))⟩
  · have hu' : u < 128 := by have : ¬ (128 : Int) ≤ (u : Int) := of_decide_eq_false h
                             omega
    rw [uv_small hu'] at hinv hlen
    simp only [List.length_cons, List.length_nil] at hlen
    repeat (first | refine gG ?_ | refine zAp (fun _ => ?_))
    refine lo_conv tok rfl rfl rfl rfl (wrap_u8 u) ?_
    repeat (first | refine gG ?_ | refine zAp (fun _ => ?_))
    refine zG ?_
    refine ⟨_, rfl, ?_⟩
    rw [← hinv]
    have hb : T.lit (.int .u8 ((u % 256 : Nat) : Int)) = bytT (UInt8.ofNat u) := by rw [Nat.mod_eq_of_lt (by omega)]; exact u8_of (by omega)
    simp only [byts, List.map_append, List.map_cons, List.map_nil, ← hb, List.length_append, List.length_cons, List.length_nil]
end Go.Proofs.Ythgackidonocpaa
namespace Go.Proofs.Ythgackidonocpaa
open Go.RowKit
inductive V where
  | mk (kind num : Int) (text : ByteArray) (args : List V)
mutual
def V.ts : V → List T
  | .mk k n t l => [.lit (.int .i64 k), .lit (.int .i64 n), .lit (.string t), .row l.length 4 (V.all l)]
def V.all : List V → List T
  | [] => []
  | v :: r => v.ts ++ V.all r
end
theorem V.all_eq : ∀ l : List V, V.all l = l.flatMap V.ts
  | [] => rfl
  | v :: l => by rw [V.all, V.all_eq l]; rfl
theorem V.ts_len : ∀ v : V, v.ts.length = 4
  | .mk _ _ _ _ => rfl
def V.row (l : List V) : T := .row l.length 4 (V.all l)
def V.t (v : V) : T := .agg v.ts
mutual
def V.same : V → V → Bool
  | .mk k n t l, .mk k' n' t' l' => decide (k = k') && decide (n = n') && decide (t = t') && V.sames l l'
def V.sames : List V → List V → Bool
  | [], [] => true
  | v :: l, v' :: l' => v.same v' && V.sames l l'
  | _, _ => false
end
theorem V.at {l : List V} {k : Nat} {v : V} (h : l[k]? = some v) : ((V.all l).drop (k * 4)).take 4 = v.ts := by rw [V.all_eq]; exact flat_at V.ts 4 V.ts_len h
/-- all pairs up to the first that is not alike -/
def eqBy {α β : Type} (p : α → β → Bool) : List α → List β → Bool
  | [], [] => true
  | a :: l, b :: r => p a b && eqBy p l r
  | _, _ => false
theorem eqBy_len {α β : Type} {p : α → β → Bool} : ∀ {l : List α} {r : List β}, l.length ≠ r.length → eqBy p l r = false
  | [], [], h => absurd rfl h
  | [], _ :: _, _ => rfl
  | _ :: _, [], _ => rfl
  | a :: l, b :: r, h => by rw [eqBy, eqBy_len (by simpa using h), Bool.and_false]
theorem eqBy_step {α β : Type} {p : α → β → Bool} {l : List α} {r : List β} {k : Nat} {a : α} {b : β} (ha : l[k]? = some a) (hb : r[k]? = some b) : eqBy p (l.drop k) (r.drop k) = (p a b && eqBy p (l.drop (k + 1)) (r.drop (k + 1))) := by
  obtain ⟨h1, rfl⟩ := List.getElem?_eq_some_iff.1 ha
  obtain ⟨h2, rfl⟩ := List.getElem?_eq_some_iff.1 hb
  rw [List.drop_eq_getElem_cons h1, List.drop_eq_getElem_cons h2, eqBy]
set_option maxRecDepth 100000 in
set_option maxHeartbeats 2000000 in
theorem eqVals_af (p : V → V → Bool) (f : FuncId) (l r : List V) (hf : ∀ a ∈ l, ∀ b ∈ r, AF Try.prog f [a.t, b.t] (· = .lit (.bool (p a b)))) :
    AF Try.prog 82 [V.row l, V.row r, .fn (.func f) []] (· = .lit (.bool (eqBy p l r))) := by
  refine af_enter tok Try.func82 Try.ntmps82 Try.results82 rfl (by kernel_rfl) rfl rfl fun F hX => ?_
  repeat (first | refine gG ?_ | refine zN1 (fun hlen => ?_) | refine zN2 (fun hlen => ?_) | refine zAl (fun _ => ?_))
  refine x_cond rfl (fun h => ?_) (fun h => ?_)
  · repeat (first | refine gG ?_ | refine zN1 (fun hlen => ?_) | refine zN2 (fun hlen => ?_) | refine zAl (fun _ => ?_))
    first | refine zR ?_ | refine zQ ?_
    have : l.length ≠ r.length := by have := h; simp at this; omega
    rw [eqBy_len this]
    rfl
  · have hlr : l.length = r.length := by have := h; simp at this; omega
    repeat (first | refine gG ?_ | refine zN1 (fun hlen => ?_) | refine zN2 (fun hlen => ?_) | refine zAl (fun _ => ?_))
    refine x_loop [6, 7, 8, 9, 17, 18, 19, 20, 21, 22, 23, 24, 25, 26, 27, 28, 29, 30, 31] (fun k : Nat => [(17, .c (.lit (.int .i64 k)))]) (fun _ => []) (fun k => k ≤ l.length ∧ eqBy p l r = eqBy p (l.drop k) (r.drop k)) (fun k => l.length - k) 0 ⟨Nat.zero_le _, rfl⟩ ⟨rfl, trivial⟩ rfl fun k hk => ?_
    repeat (first | refine gG ?_ | refine zN1 (fun hlen => ?_) | refine zN2 (fun hlen => ?_) | refine zAl (fun _ => ?_))
    refine x_cond rfl (fun h => ?_) (fun h => ?_)
    · have hk' : k < l.length := by simpa using h
      obtain ⟨a, ha⟩ : ∃ a, l[k]? = some a := ⟨_, List.getElem?_eq_getElem hk'⟩
      obtain ⟨b, hb⟩ : ∃ b, r[k]? = some b := ⟨_, List.getElem?_eq_getElem (hlr ▸ hk')⟩
      have hp := hf a (List.mem_of_getElem? ha) b (List.mem_of_getElem? hb)
      have hstep : eqBy p (l.drop k) (r.drop k) = (p a b && eqBy p (l.drop (k + 1)) (r.drop (k + 1))) := eqBy_step ha hb
      repeat (first | refine gG ?_ | refine zN1 (fun hlen => ?_) | refine zN2 (fun hlen => ?_) | refine zAl (fun _ => ?_))
      refine lo_idx tok k rfl rfl rfl hk' rfl rfl rfl rfl ?_
      repeat (first | refine gG ?_ | refine zN1 (fun hlen => ?_) | refine zN2 (fun hlen => ?_) | refine zAl (fun _ => ?_))
      refine lo_load_pin tok rfl rfl rfl (V.at ha) (V.ts_len a) ?_
      obtain ⟨ka, na, ta, la⟩ := a
      obtain ⟨kb, nb, tb, lb⟩ := b
      repeat (first | refine gG ?_ | refine zN1 (fun hlen => ?_) | refine zN2 (fun hlen => ?_) | refine zAl (fun _ => ?_))
      refine lo_idx tok k rfl rfl rfl (hlr ▸ hk') rfl rfl rfl rfl ?_
      repeat (first | refine gG ?_ | refine zN1 (fun hlen => ?_) | refine zN2 (fun hlen => ?_) | refine zAl (fun _ => ?_))
      refine lo_load_pin tok rfl rfl rfl (V.at hb) (V.ts_len _) ?_
      repeat (first | refine gG ?_ | refine zN1 (fun hlen => ?_) | refine zN2 (fun hlen => ?_) | refine zAl (fun _ => ?_))
      refine zCallc (hp) ?_
      rintro _ rfl
      repeat (first | refine gG ?_ | refine zN1 (fun hlen => ?_) | refine zN2 (fun hlen => ?_) | refine zAl (fun _ => ?_))
      refine x_cond rfl (fun h => ?_) (fun h => ?_)
      · repeat (first | refine gG ?_ | refine zN1 (fun hlen => ?_) | refine zN2 (fun hlen => ?_) | refine zAl (fun _ => ?_))
        first | refine zR ?_ | refine zQ ?_
        have hq : p (.mk ka na ta la) (.mk kb nb tb lb) = false := by simpa using h
        rw [hk.2, hstep, hq]
        rfl
      · repeat (first | refine gG ?_ | refine zN1 (fun hlen => ?_) | refine zN2 (fun hlen => ?_) | refine zAl (fun _ => ?_))
        have hq : p (.mk ka na ta la) (.mk kb nb tb lb) = true := by simpa using h
        exact ⟨k + 1, ⟨hk', by rw [hk.2, hstep, hq, Bool.true_and]⟩, by omega, x_wkd 0 ⟨rfl, trivial⟩ rfl (by repeat (first | exact ag_refl | refine ag_upd rfl ?_ | refine ag_at rfl rfl ?_))⟩
    · have hk' : k = l.length := by have : ¬ k < l.length := by simpa using h
                                    omega
      repeat (first | refine gG ?_ | refine zN1 (fun hlen => ?_) | refine zN2 (fun hlen => ?_) | refine zAl (fun _ => ?_))
      first | refine zR ?_ | refine zQ ?_
      rw [hk.2, hk', List.drop_length, hlr, List.drop_length]
      rfl
theorem V.sames_eq : ∀ l r : List V, V.sames l r = eqBy V.same l r
  | [], [] => rfl
  | [], _ :: _ => rfl
  | _ :: _, [] => rfl
  | a :: l, b :: r => by rw [V.sames, eqBy, V.sames_eq l r]
mutual
def V.size : V → Nat
  | .mk _ _ _ l => V.sizes l + 1
def V.sizes : List V → Nat
  | [] => 0
  | v :: r => v.size + V.sizes r
end
theorem V.size_mem {v : V} : ∀ {l : List V}, v ∈ l → v.size ≤ V.sizes l
  | [], h => by simp at h
  | x :: l, h => by
    simp only [V.sizes]
    rcases List.mem_cons.1 h with rfl | h
    · omega
    · have := V.size_mem h; omega
theorem V.len_sizes : ∀ l : List V, l.length ≤ V.sizes l
  | [] => by simp [V.sizes]
  | .mk _ _ _ _ :: l => by have := V.len_sizes l; simp only [V.sizes, V.size, List.length_cons]; omega
theorem V.ind {P : V → Prop} (h : ∀ k n t l, (∀ v ∈ l, P v) → P (.mk k n t l)) : ∀ v, P v := by
  have : ∀ (N : Nat) (v : V), v.size ≤ N → P v := by
    intro N
    induction N with
    | zero => intro v hv; cases v; simp [V.size] at hv
    | succ N ih =>
      intro v hv
      cases v with
      | mk k n t l =>
        refine h k n t l fun x hx => ih x ?_
        have := V.size_mem hx
        simp only [V.size] at hv
        omega
  exact fun v => this v.size v (Nat.le_refl _)
theorem eqBy_refl {α : Type} {p : α → α → Bool} : ∀ {l : List α}, (∀ a ∈ l, p a a = true) → eqBy p l l = true
  | [], _ => rfl
  | a :: l, h => by rw [eqBy, h a (by simp), eqBy_refl fun a ha => h a (List.mem_cons_of_mem _ ha)]; rfl
theorem V.same_refl (v : V) : v.same v = true := by
  induction v using V.ind with
  | h k n t l ih => simp [V.same, V.sames_eq, eqBy_refl ih]
set_option maxRecDepth 100000 in
set_option maxHeartbeats 1000000 in
theorem sameValue_af (v : V) : ∀ v' : V, AF Try.prog 22 [v.t, v'.t] (· = .lit (.bool (v.same v'))) := by
  induction v using V.ind with
  | h k n t l ih =>
    rintro ⟨k', n', t', l'⟩
    have hcall := eqVals_af V.same 22 l l' (fun a ha b _ => ih a ha b)
    refine af_enter tok Try.func22 Try.ntmps22 Try.results22 rfl (by kernel_rfl) rfl rfl fun F hX => ?_
    cases d1 : decide (k = k')
    · repeat (first | refine gG ?_ | refine zBx (fun _ => ?_))
      first | refine zR ?_ | refine zQ ?_
      simp [V.same, d1, outT]
    cases d2 : decide (n = n')
    · repeat (first | refine gG ?_ | refine zBx (fun _ => ?_))
      first | refine zR ?_ | refine zQ ?_
      simp [V.same, d2, outT]
    cases d3 : decide (t = t')
    · repeat (first | refine gG ?_ | refine zBx (fun _ => ?_))
      first | refine zR ?_ | refine zQ ?_
      simp [V.same, d3, outT]
    repeat (first | refine gG ?_ | refine zBx (fun _ => ?_))
    refine zCall (hcall) ?_
    rintro _ rfl
    repeat (first | refine gG ?_ | refine zBx (fun _ => ?_))
    first | refine zR ?_ | refine zQ ?_
    simp [V.same, d1, d2, d3, V.sames_eq, outT]
end Go.Proofs.Ythgackidonocpaa
namespace Go.Proofs.Ythgackidonocpaa
open Go.RowKit
theorem V.all_app (l r : List V) : V.all (l ++ r) = V.all l ++ V.all r := by simp [V.all_eq]
theorem V.all_one (v : V) : V.all [v] = v.ts := by simp [V.all]
theorem V.all_snoc {l : List V} {k : Nat} {a : V} (h : l[k]? = some a) : V.all (l.take (k + 1)) = V.all (l.take k) ++ a.ts := by
  obtain ⟨h1, rfl⟩ := List.getElem?_eq_some_iff.1 h
  rw [List.take_succ_eq_append_getElem h1, V.all_app, V.all_one]
end Go.Proofs.Ythgackidonocpaa
namespace Go.Proofs.Ythgackidonocpaa
open Go.RowKit
/-- it is a bool -/
def Tell (t : T) : Prop := ∃ b : Bool, t = .lit (.bool b)
theorem nth {α : Type} {l : List α} {k : Nat} (h : k < l.length) : ∃ a, l[k]? = some a := ⟨_, List.getElem?_eq_getElem h⟩
def V.args : V → List V
  | .mk _ _ _ l => l
theorem V.sizes_app (l r : List V) : V.sizes (l ++ r) = V.sizes l + V.sizes r := by
  induction l with
  | nil => simp [V.sizes]
  | cons v l ih => simp only [List.cons_append, V.sizes, ih]; omega
theorem V.sizes_flat : ∀ l : List V, V.sizes (l.flatMap V.args) + l.length = V.sizes l
  | [] => rfl
  | .mk _ _ _ a :: l => by
    have := V.sizes_flat l
    simp only [List.flatMap_cons, V.args, V.sizes_app, V.sizes, V.size, List.length_cons]
    omega
theorem V.take_sizes (l : List V) (k : Nat) : V.sizes (l.take k) ≤ V.sizes l := by
  have := V.sizes_app (l.take k) (l.drop k)
  rw [List.take_append_drop] at this
  omega
theorem flat_snoc' {α β : Type} (f : α → List β) {l : List α} {k : Nat} {a : α} (h : l[k]? = some a) : (l.take (k + 1)).flatMap f = (l.take k).flatMap f ++ f a := by
  obtain ⟨h1, rfl⟩ := List.getElem?_eq_some_iff.1 h
  rw [List.take_succ_eq_append_getElem h1, List.flatMap_append]
  simp
set_option maxRecDepth 100000 in
set_option maxHeartbeats 2000000 in
theorem valueSmall_af (v : V) (hv : v.size ≤ 1048576) : AF Try.prog 14 [v.t] Tell := by
  obtain ⟨k0, n0, t0, l0⟩ := v
  refine af_enter tok Try.func14 Try.ntmps14 Try.results14 rfl (by kernel_rfl) rfl rfl fun F hX => ?_
  repeat (first | refine gG ?_ | refine zN1 (fun hlen => ?_) | refine zN2 (fun hlen => ?_) | refine zAl (fun _ => ?_) | refine zBx (fun _ => ?_) | refine zAp (fun _ => ?_))
  rename_i b0
  refine x_loop [2, 3, 4, 5, 6, 8, 11, 12, 13, 14, 15, 16, 17, 18, 19, 20, 21, 22, 23, 24, 25, 26, 27, 28, 29, 30, 31, 32, 33, 34, 35, 36, 37] (fun y : List V × Nat × Nat => [(3, .c (V.row y.1)), (4, .c (.lit (.int .i64 (y.2.1 : Nat)))), (5, .c (.lit (.int .i64 (y.2.2 : Nat))))]) (fun _ => [.box b0 24 [.c (.lit (.int .i64 k0)), .c (.lit (.int .i64 n0)), .c (.lit (.string t0)), .c (V.row l0)]])
    (fun y => V.sizes y.1 ≤ 1048576 ∧ y.2.1 ≤ 3000 ∧ y.2.2 ≤ 301) (fun y => 302 - y.2.2) ([.mk k0 n0 t0 l0], 0, 0) ⟨by simpa [V.sizes] using hv, by simp, by simp⟩ ⟨rfl, rfl, rfl, trivial⟩ rfl ?_
  rintro ⟨l, n, dp⟩ ⟨hl, hn, hdp⟩
  dsimp only at hl hn hdp ⊢
  have hll := V.len_sizes l
  repeat (first | refine gG ?_ | refine zN1 (fun hlen => ?_) | refine zN2 (fun hlen => ?_) | refine zAl (fun _ => ?_) | refine zBx (fun _ => ?_) | refine zAp (fun _ => ?_))
  refine x_cond rfl (fun h => ?_) (fun h => ?_)
  · repeat (first | refine gG ?_ | refine zN1 (fun hlen => ?_) | refine zN2 (fun hlen => ?_) | refine zAl (fun _ => ?_) | refine zBx (fun _ => ?_) | refine zAp (fun _ => ?_))
    refine lo_add rfl rfl (r := ((n + l.length : Nat) : Int)) (by rw [IntWalk.i64_in _ (by omega)]; omega) ?_
    cases d1 : decide ((300 : Int) < (dp : Int))
    · cases d2 : decide ((3000 : Int) < ((n + l.length : Nat) : Int))
      · have hd1 : ¬ (300 : Int) < (dp : Int) := of_decide_eq_false d1
        have hd2 : ¬ (3000 : Int) < ((n + l.length : Nat) : Int) := of_decide_eq_false d2
        repeat (first | refine gG ?_ | refine zN1 (fun hlen => ?_) | refine zN2 (fun hlen => ?_) | refine zAl (fun _ => ?_) | refine zBx (fun _ => ?_) | refine zAp (fun _ => ?_))
        refine x_own 6 24 4 rfl rfl rfl rfl rfl ?_
        refine x_loop [6, 8, 28, 29, 30, 31, 32, 33, 34, 35, 36] (fun y : Nat × Value => [(28, .c (.lit (.int .i64 (y.1 : Nat)))), (6, .own 1 y.2)]) (fun y => [.box b0 24 [.c (.lit (.int .i64 k0)), .c (.lit (.int .i64 n0)), .c (.lit (.string t0)), .c (V.row l0)], .row y.2 24 4 ((l.take y.1).flatMap V.args).length (V.all ((l.take y.1).flatMap V.args))])
          (fun y => y.1 ≤ l.length) (fun y => l.length - y.1) (0, .slice none 0 0) (Nat.zero_le _) ⟨rfl, rfl, trivial⟩ rfl ?_
        rintro ⟨k, v⟩ hk
        dsimp only at hk ⊢
        repeat (first | refine gG ?_ | refine zN1 (fun hlen => ?_) | refine zN2 (fun hlen => ?_) | refine zAl (fun _ => ?_) | refine zBx (fun _ => ?_) | refine zAp (fun _ => ?_))
        refine x_cond rfl (fun h => ?_) (fun h => ?_)
        · have hk' : k < l.length := by simpa using h
          obtain ⟨a, ha⟩ := nth hk'
          have hsn := flat_snoc' V.args ha
          have hsz : ((l.take k).flatMap V.args).length + a.args.length ≤ 1048576 := by
            have h1 := V.len_sizes ((l.take (k + 1)).flatMap V.args)
            have h2 := V.sizes_flat (l.take (k + 1))
            have h3 := V.take_sizes l (k + 1)
            rw [hsn] at h1 h2
            rw [List.length_append] at h1
            omega
          repeat (first | refine gG ?_ | refine zN1 (fun hlen => ?_) | refine zN2 (fun hlen => ?_) | refine zAl (fun _ => ?_) | refine zBx (fun _ => ?_) | refine zAp (fun _ => ?_))
          refine zIx (k) (hk') ?_
          repeat (first | refine gG ?_ | refine zN1 (fun hlen => ?_) | refine zN2 (fun hlen => ?_) | refine zAl (fun _ => ?_) | refine zBx (fun _ => ?_) | refine zAp (fun _ => ?_))
          refine zEl (V.at ha) (V.ts_len a) ?_
          obtain ⟨ka, na, ta, la⟩ := a
          simp only [V.args] at hsz hsn
          repeat (first | refine gG ?_ | refine zN1 (fun hlen => ?_) | refine zN2 (fun hlen => ?_) | refine zAl (fun _ => ?_) | refine zBx (fun _ => ?_) | refine zAp (fun _ => ?_))
          exact ⟨(k + 1, _), hk', by simp only; omega, x_wkd 2 ⟨rfl, rfl, trivial⟩ (by simp only [hsn, V.all_app, List.length_append]; rfl) (by repeat (first | exact ag_refl | refine ag_upd rfl ?_ | refine ag_at rfl rfl ?_))⟩
        · have hk' : k = l.length := by have : ¬ k < l.length := by simpa using h
                                        omega
          subst hk'
          repeat (first | refine gG ?_ | refine zN1 (fun hlen => ?_) | refine zN2 (fun hlen => ?_) | refine zAl (fun _ => ?_) | refine zBx (fun _ => ?_) | refine zAp (fun _ => ?_))
          refine ⟨(l.flatMap V.args, n + l.length, dp + 1), ⟨?_, by simp only; omega, by simp only; omega⟩, by simp only; omega, (wk_frz hX 3 rfl rfl rfl rfl).trans (x_wkd 1 ⟨?_, rfl, rfl, trivial⟩ rfl (by repeat (first | exact ag_refl | refine ag_upd rfl ?_ | refine ag_at rfl rfl ?_)))⟩
          · have := V.sizes_flat l; simp only; omega
          · simp only [List.take_length]; rfl
      · repeat (first | refine gG ?_ | refine zN1 (fun hlen => ?_) | refine zN2 (fun hlen => ?_) | refine zAl (fun _ => ?_) | refine zBx (fun _ => ?_) | refine zAp (fun _ => ?_))
        first | refine zR ?_ | refine zQ ?_
        exact ⟨_, rfl⟩
    · repeat (first | refine gG ?_ | refine zN1 (fun hlen => ?_) | refine zN2 (fun hlen => ?_) | refine zAl (fun _ => ?_) | refine zBx (fun _ => ?_) | refine zAp (fun _ => ?_))
      first | refine zR ?_ | refine zQ ?_
      exact ⟨_, rfl⟩
  · repeat (first | refine gG ?_ | refine zN1 (fun hlen => ?_) | refine zN2 (fun hlen => ?_) | refine zAl (fun _ => ?_) | refine zBx (fun _ => ?_) | refine zAp (fun _ => ?_))
    first | refine zR ?_ | refine zQ ?_
    exact ⟨_, rfl⟩
set_option maxRecDepth 100000 in
set_option maxHeartbeats 1000000 in
theorem valuesSmall_af (l : List V) (hl : ∀ v ∈ l, v.size ≤ 1048576) (hn : l.length ≤ 1048576) : AF Try.prog 96 [V.row l] Tell := by
  refine af_enter tok Try.func96 Try.ntmps96 Try.results96 rfl (by kernel_rfl) rfl rfl fun F hX => ?_
  repeat (first | refine gG ?_ | refine zN1 (fun hlen => ?_) | refine zN2 (fun hlen => ?_) | refine zAl (fun _ => ?_))
  refine x_loop [2, 4, 7, 8, 9, 10, 11, 12, 13, 14] (fun k : Nat => [(7, .c (.lit (.int .i64 k)))]) (fun _ => []) (fun k => k ≤ l.length) (fun k => l.length - k) 0 (Nat.zero_le _) ⟨rfl, trivial⟩ rfl fun k hk => ?_
  repeat (first | refine gG ?_ | refine zN1 (fun hlen => ?_) | refine zN2 (fun hlen => ?_) | refine zAl (fun _ => ?_))
  refine x_cond rfl (fun h => ?_) (fun h => ?_)
  · have hk' : k < l.length := by simpa using h
    obtain ⟨a, ha⟩ := nth hk'
    have hs := valueSmall_af a (hl a (List.mem_of_getElem? ha))
    repeat (first | refine gG ?_ | refine zN1 (fun hlen => ?_) | refine zN2 (fun hlen => ?_) | refine zAl (fun _ => ?_))
    refine zIx (k) (hk') ?_
    repeat (first | refine gG ?_ | refine zN1 (fun hlen => ?_) | refine zN2 (fun hlen => ?_) | refine zAl (fun _ => ?_))
    refine zEl (V.at ha) (V.ts_len a) ?_
    obtain ⟨ka, na, ta, la⟩ := a
    repeat (first | refine gG ?_ | refine zN1 (fun hlen => ?_) | refine zN2 (fun hlen => ?_) | refine zAl (fun _ => ?_))
    refine zCall (hs) ?_
    rintro _ ⟨b, rfl⟩
    repeat (first | refine gG ?_ | refine zN1 (fun hlen => ?_) | refine zN2 (fun hlen => ?_) | refine zAl (fun _ => ?_))
    refine x_cond rfl (fun h => ?_) (fun h => ?_)
    · repeat (first | refine gG ?_ | refine zN1 (fun hlen => ?_) | refine zN2 (fun hlen => ?_) | refine zAl (fun _ => ?_))
      first | refine zR ?_ | refine zQ ?_
      exact ⟨_, rfl⟩
    · repeat (first | refine gG ?_ | refine zN1 (fun hlen => ?_) | refine zN2 (fun hlen => ?_) | refine zAl (fun _ => ?_))
      exact ⟨k + 1, hk', by omega, x_wkd 0 ⟨rfl, trivial⟩ rfl (by repeat (first | exact ag_refl | refine ag_upd rfl ?_ | refine ag_at rfl rfl ?_))⟩
  · repeat (first | refine gG ?_ | refine zN1 (fun hlen => ?_) | refine zN2 (fun hlen => ?_) | refine zAl (fun _ => ?_))
    first | refine zR ?_ | refine zQ ?_
    exact ⟨_, rfl⟩
end Go.Proofs.Ythgackidonocpaa
namespace Go.Proofs.Ythgackidonocpaa
open Go.RowKit
/-- 0, -1, 1, -2, 2 and so on asq 0, 1, 2, 3, 4 -/
def zz (n : Int) : Nat := if 0 ≤ n then (2 * n).toNat else (2 * (-n - 1) + 1).toNat
def inI (n : Int) : Prop := -9223372036854775808 ≤ n ∧ n ≤ 9223372036854775807
theorem zz_lt {n : Int} (h : inI n) : zz n < 2 ^ 64 := by
  unfold zz; unfold inI at h
  split <;> omega
/-- a number's lowest byte -/
def kb (k : Int) : UInt8 := UInt8.ofNat (k % 256).toNat
mutual
def V.bytes : V → List UInt8
  | .mk k n t l => kb k :: (uv (zz n) ++ (uv t.size ++ (t.data.toList ++ (uv l.length ++ V.bytesAll l))))
def V.bytesAll : List V → List UInt8
  | [] => []
  | v :: r => v.bytes ++ V.bytesAll r
end
theorem V.bytesAll_eq : ∀ l : List V, V.bytesAll l = l.flatMap V.bytes
  | [] => rfl
  | v :: l => by rw [V.bytesAll, V.bytesAll_eq l]; rfl
mutual
/-- every number is in range -/
def V.ok : V → Prop
  | .mk _ n _ l => inI n ∧ V.oks l
def V.oks : List V → Prop
  | [] => True
  | v :: r => v.ok ∧ V.oks r
end
theorem V.oks_iff : ∀ l : List V, V.oks l ↔ ∀ v ∈ l, v.ok
  | [] => by simp [V.oks]
  | v :: l => by simp [V.oks, V.oks_iff l]
mutual
/-- the bytes of its texts -/
def V.txt : V → Nat
  | .mk _ _ t l => t.size + V.txts l
def V.txts : List V → Nat
  | [] => 0
  | v :: r => v.txt + V.txts r
end
theorem uv_len_pos (n : Nat) : 1 ≤ (uv n).length := by
  by_cases h : n < 128
  · rw [uv_small h]; simp
  · rw [uv_big h]; simp
mutual
theorem V.bytes_len : ∀ v : V, v.ok → v.size ≤ 1048576 → v.txt ≤ 1048576 → v.bytes.length ≤ 32 * v.size + v.txt
  | .mk k n t l, ho, hs, ht => by
    simp only [V.ok, V.size, V.txt] at ho hs ht
    have h1 := uv_len64 (zz_lt ho.1)
    have h2 := uv_len64 (n := t.size) (by omega)
    have h3 := uv_len64 (n := l.length) (by have := V.len_sizes l; omega)
    have h4 := V.bytesAll_len l ho.2 (by omega) (by omega)
    simp only [V.bytes, V.size, V.txt, List.length_cons, List.length_append, sz_len]
    omega
theorem V.bytesAll_len : ∀ l : List V, V.oks l → V.sizes l ≤ 1048576 → V.txts l ≤ 1048576 → (V.bytesAll l).length ≤ 32 * V.sizes l + V.txts l
  | [], _, _, _ => by simp [V.bytesAll]
  | v :: l, ho, hs, ht => by
    simp only [V.oks, V.sizes, V.txts] at ho hs ht
    have h1 := V.bytes_len v ho.1 (by omega) (by omega)
    have h2 := V.bytesAll_len l ho.2 (by omega) (by omega)
    simp only [V.bytesAll, V.sizes, V.txts, List.length_append]
    omega
end
mutual
/-- every node of it, with how deep it lies -/
def V.every (p : V → Nat → Bool) : V → Nat → Bool
  | .mk k n t l, d => p (.mk k n t l) d && V.everys p l (d + 1)
def V.everys (p : V → Nat → Bool) : List V → Nat → Bool
  | [], _ => true
  | v :: r, d => v.every p d && V.everys p r d
end
theorem V.everys_eq (p : V → Nat → Bool) (d : Nat) : ∀ l : List V, V.everys p l d = l.all fun v => v.every p d
  | [] => rfl
  | v :: l => by rw [V.everys, V.everys_eq p d l]; rfl
def V.num : V → Int
  | .mk _ n _ _ => n
def V.kind : V → Int
  | .mk k _ _ _ => k
def V.text : V → ByteArray
  | .mk _ _ t _ => t
end Go.Proofs.Ythgackidonocpaa
namespace Go.Proofs.Ythgackidonocpaa
open Go.RowKit
structure RS where
  l : List UInt8
  bad : Bool
  dep : Nat
def RS.fail (s : RS) : RS := { s with bad := true }
def rByte (s : RS) : Nat × RS := match s.l with | [] => (0, s.fail) | a :: r => (a.toNat, { s with l := r })
def rUns : Nat → Nat → Nat → RS → Nat × RS
  | 0, _, _, s => (0, s.fail)
  | k + 1, i, u, s =>
    if (rByte s).2.bad || (decide (i = 9) && decide (1 < (rByte s).1)) || (decide (0 < i) && decide ((rByte s).1 = 0)) then (0, (rByte s).2.fail)
    else if (rByte s).1 < 128 then (u + (rByte s).1 * 128 ^ i, (rByte s).2) else rUns k (i + 1) (u + ((rByte s).1 - 128) * 128 ^ i) (rByte s).2
def rU (s : RS) : Nat × RS := rUns 10 0 0 s
def rNat (s : RS) : Nat × RS := if 9223372036854775807 < (rU s).1 then (0, (rU s).2.fail) else rU s
def dz (u : Nat) : Int := if u % 2 = 0 then ((u / 2 : Nat) : Int) else -((u / 2 : Nat) : Int) - 1
def rInt (s : RS) : Int × RS := (dz (rU s).1, (rU s).2)
def rCount (s : RS) : Nat × RS := if (rNat s).2.l.length < (rNat s).1 then (0, (rNat s).2.fail) else rNat s
def rText (s : RS) : List UInt8 × RS := ((rCount s).2.l.take (rCount s).1, { (rCount s).2 with l := (rCount s).2.l.drop (rCount s).1 })
def rLoop {α : Type} (g : RS → α × RS) : Nat → RS → List α × RS
  | 0, s => ([], s)
  | n + 1, s => if s.bad then ([], s) else ((g s).1 :: (rLoop g n (g s).2).1, (rLoop g n (g s).2).2)
def rSome {α : Type} (g : RS → α × RS) (s : RS) : List α × RS := rLoop g (rCount s).1 (rCount s).2
def V.zero : V := .mk 0 0 ⟨#[]⟩ []
def RS.up (s : RS) : RS := { s with dep := s.dep + 1 }
def RS.down (s : RS) : RS := { s with dep := s.dep - 1 }
def rVal : Nat → RS → V × RS
  | 0, s => (V.zero, s.up.fail)
  | f + 1, s =>
    if 40 < s.dep + 1 then (V.zero, s.up.fail)
    else
      let p1 := rByte s.up
      let p2 := rInt p1.2
      let p3 := rText p2.2
      let p4 := rSome (rVal f) p3.2
      (.mk p1.1 p2.1 (bs p3.1) p4.1, p4.2.down)
theorem rByte_ok {s s' : RS} {b : Nat} (h : rByte s = (b, s')) (hb : s'.bad = false) : ∃ a : UInt8, b = a.toNat ∧ s = ⟨a :: s'.l, false, s'.dep⟩ := by
  obtain ⟨l, bad, d⟩ := s
  cases l with
  | nil => simp only [rByte, RS.fail, Prod.mk.injEq] at h; rw [← h.2] at hb; cases hb
  | cons a r =>
    simp only [rByte, Prod.mk.injEq] at h
    obtain ⟨rfl, rfl⟩ := h
    dsimp only at hb
    exact ⟨a, rfl, by rw [hb]⟩
theorem pow7 {i : Nat} (h : i ≤ 8) : 2 ^ (64 - 7 * i) = 128 * 2 ^ (64 - 7 * (i + 1)) := by
  rw [show 64 - 7 * i = 7 + (64 - 7 * (i + 1)) by omega, Nat.pow_add]
theorem rUns_ok : ∀ (k i u : Nat) (s s' : RS) (x : Nat), i + k = 10 → rUns k i u s = (x, s') → s'.bad = false → ∃ y, s = ⟨uv y ++ s'.l, false, s'.dep⟩ ∧ x = u + y * 128 ^ i ∧ (0 < i → 0 < y) ∧ y < 2 ^ (64 - 7 * i)
  | 0, i, u, s, s', x, _, h, hb => by
    simp only [rUns, RS.fail, Prod.mk.injEq] at h
    rw [← h.2] at hb; cases hb
  | k + 1, i, u, s, s', x, hk, h, hb => by
    rw [rUns] at h
    split at h
    · simp only [RS.fail, Prod.mk.injEq] at h
      rw [← h.2] at hb; cases hb
    · rename_i hc
      simp only [Bool.or_eq_true, Bool.and_eq_true, decide_eq_true_eq, not_or, Bool.not_eq_true] at hc
      obtain ⟨⟨hc1, hc2⟩, hc3⟩ := hc
      obtain ⟨a, ha, hs⟩ := rByte_ok (s := s) (s' := (rByte s).2) (b := (rByte s).1) rfl hc1
      have ha2 : a.toNat < 256 := a.toNat_lt
      rw [ha] at h hc2 hc3
      split at h
      · rename_i hlt
        simp only [Prod.mk.injEq] at h
        obtain ⟨rfl, h2⟩ := h
        refine ⟨a.toNat, ?_, rfl, fun hi => ?_, ?_⟩
        · rw [uv_small hlt, hs, h2]
          simp
        · rcases Nat.eq_zero_or_pos a.toNat with h0 | h0
          · exact absurd ⟨hi, h0⟩ hc3
          · exact h0
        · by_cases h9 : i = 9
          · subst h9
            have : ¬ 1 < a.toNat := fun h => hc2 ⟨rfl, h⟩
            have e : 2 ^ (64 - 7 * 9) = 2 := rfl
            omega
          · rw [pow7 (by omega)]
            have := Nat.pos_of_ne_zero (Nat.ne_of_gt (Nat.two_pow_pos (64 - 7 * (i + 1))))
            calc a.toNat < 128 * 1 := by omega
              _ ≤ _ := Nat.mul_le_mul_left _ this
      · rename_i hge
        obtain ⟨y, h1, h2, h3, h4⟩ := rUns_ok k (i + 1) _ _ _ _ (by omega) h hb
        have hy := h3 (by omega)
        have hi8 : i ≤ 8 := by
          rcases Nat.lt_or_ge i 9 with h | h
          · omega
          · have : i = 9 := by omega
            subst this
            exact absurd ⟨rfl, by omega⟩ hc2
        refine ⟨a.toNat - 128 + 128 * y, ?_, ?_, fun _ => by omega, ?_⟩
        · have e1 : (a.toNat - 128 + 128 * y) % 128 + 128 = a.toNat := by omega
          have e2 : (a.toNat - 128 + 128 * y) / 128 = y := by omega
          rw [uv_big (by omega), e1, e2, hs, h1]
          simp
        · rw [h2, Nat.pow_succ, Nat.add_mul]
          have : y * (128 ^ i * 128) = 128 * y * 128 ^ i := by
            rw [Nat.mul_comm (128 ^ i) 128, ← Nat.mul_assoc, Nat.mul_comm y 128]
          omega
        · rw [pow7 hi8]
          omega
theorem rUns_to : ∀ (k i u y : Nat) (r : List UInt8) (d : Nat), i + k = 10 → i ≤ 9 → (0 < i → 0 < y) → y < 2 ^ (64 - 7 * i) → rUns k i u ⟨uv y ++ r, false, d⟩ = (u + y * 128 ^ i, ⟨r, false, d⟩)
  | 0, i, _, _, _, _, h, h9, _, _ => by omega
  | k + 1, i, u, y, r, d, hk, h9, hp, hlt => by
    rw [rUns]
    by_cases hy : y < 128
    · have hb : rByte ⟨uv y ++ r, false, d⟩ = (y, ⟨r, false, d⟩) := by
        rw [uv_small hy]
        simp only [rByte, List.cons_append, List.nil_append]
        rw [UInt8.toNat_ofNat', Nat.mod_eq_of_lt (by omega)]
      rw [hb]
      have hc : ¬ ((false || (decide (i = 9) && decide (1 < y)) || (decide (0 < i) && decide (y = 0))) = true) := by
        simp only [Bool.or_eq_true, Bool.and_eq_true, decide_eq_true_eq, not_or]
        refine ⟨⟨by simp, fun ⟨h1, h2⟩ => ?_⟩, fun ⟨h1, h2⟩ => ?_⟩
        · subst h1
          have e : 2 ^ (64 - 7 * 9) = 2 := rfl
          omega
        · have := hp h1; omega
      rw [if_neg hc, if_pos hy]
    · have hi8 : i ≤ 8 := by
        rcases Nat.lt_or_ge i 9 with h | h
        · omega
        · have : i = 9 := by omega
          subst this
          have e : 2 ^ (64 - 7 * 9) = 2 := rfl
          omega
      have hb : rByte ⟨uv y ++ r, false, d⟩ = (y % 128 + 128, ⟨uv (y / 128) ++ r, false, d⟩) := by
        rw [uv_big hy]
        simp only [rByte, List.cons_append]
        rw [UInt8.toNat_ofNat', Nat.mod_eq_of_lt (by omega)]
      rw [hb]
      have hc : ¬ ((false || (decide (i = 9) && decide (1 < y % 128 + 128)) || (decide (0 < i) && decide (y % 128 + 128 = 0))) = true) := by
        simp only [Bool.or_eq_true, Bool.and_eq_true, decide_eq_true_eq, not_or]
        exact ⟨⟨by simp, fun ⟨h1, _⟩ => by omega⟩, fun ⟨_, h2⟩ => by omega⟩
      rw [if_neg hc, if_neg (by omega)]
      rw [pow7 hi8] at hlt
      rw [rUns_to k (i + 1) _ (y / 128) r d (by omega) (by omega) (fun _ => by omega) (by omega)]
      congr 1
      rw [Nat.pow_succ, show y % 128 + 128 - 128 = y % 128 by omega]
      have : y / 128 * (128 ^ i * 128) = 128 * (y / 128) * 128 ^ i := by
        rw [Nat.mul_comm (128 ^ i) 128, ← Nat.mul_assoc, Nat.mul_comm (y / 128) 128]
      rw [this, Nat.add_assoc, ← Nat.add_mul]
      congr 2
      omega
theorem rU_ok {s s' : RS} {x : Nat} (h : rU s = (x, s')) (hb : s'.bad = false) : s = ⟨uv x ++ s'.l, false, s'.dep⟩ ∧ x < 2 ^ 64 := by
  obtain ⟨y, h1, h2, _, h4⟩ := rUns_ok 10 0 0 s s' x rfl h hb
  have : x = y := by simpa using h2
  subst this
  exact ⟨h1, h4⟩
theorem rU_to (x : Nat) (r : List UInt8) (d : Nat) (h : x < 2 ^ 64) : rU ⟨uv x ++ r, false, d⟩ = (x, ⟨r, false, d⟩) := by
  rw [rU, rUns_to 10 0 0 x r d rfl (by omega) (by omega) h]; simp
theorem rNat_ok {s s' : RS} {x : Nat} (h : rNat s = (x, s')) (hb : s'.bad = false) : s = ⟨uv x ++ s'.l, false, s'.dep⟩ ∧ x ≤ 9223372036854775807 := by
  unfold rNat at h
  split at h
  · simp only [RS.fail, Prod.mk.injEq] at h
    rw [← h.2] at hb; cases hb
  · rename_i hn
    rw [h] at hn
    exact ⟨(rU_ok h hb).1, by simpa using hn⟩
theorem rNat_to (x : Nat) (r : List UInt8) (d : Nat) (h : x ≤ 9223372036854775807) : rNat ⟨uv x ++ r, false, d⟩ = (x, ⟨r, false, d⟩) := by
  rw [rNat, rU_to x r d (by omega), if_neg (by simp only; omega)]
theorem dz_zz {n : Int} : dz (zz n) = n := by
  unfold dz zz
  split <;> split <;> omega
theorem zz_dz (u : Nat) : zz (dz u) = u := by
  unfold dz zz
  split <;> split <;> omega
theorem dz_in {u : Nat} (h : u < 2 ^ 64) : inI (dz u) := by
  unfold inI dz
  split <;> omega
theorem rInt_ok {s s' : RS} {x : Int} (h : rInt s = (x, s')) (hb : s'.bad = false) : s = ⟨uv (zz x) ++ s'.l, false, s'.dep⟩ ∧ inI x := by
  simp only [rInt, Prod.mk.injEq] at h
  obtain ⟨rfl, rfl⟩ := h
  obtain ⟨h1, h2⟩ := rU_ok (s := s) (s' := (rU s).2) (x := (rU s).1) rfl hb
  rw [zz_dz]
  exact ⟨h1, dz_in h2⟩
theorem rInt_to (x : Int) (r : List UInt8) (d : Nat) (h : inI x) : rInt ⟨uv (zz x) ++ r, false, d⟩ = (x, ⟨r, false, d⟩) := by
  rw [rInt, rU_to (zz x) r d (zz_lt h), dz_zz]
theorem rCount_ok {s s' : RS} {x : Nat} (h : rCount s = (x, s')) (hb : s'.bad = false) : s = ⟨uv x ++ s'.l, false, s'.dep⟩ ∧ x ≤ s'.l.length ∧ x ≤ 9223372036854775807 := by
  unfold rCount at h
  split at h
  · simp only [RS.fail, Prod.mk.injEq] at h
    rw [← h.2] at hb; cases hb
  · rename_i hn
    rw [h] at hn
    obtain ⟨h1, h2⟩ := rNat_ok h hb
    exact ⟨h1, by simpa using hn, h2⟩
theorem rCount_to (x : Nat) (r : List UInt8) (d : Nat) (h : x ≤ 9223372036854775807) (hr : x ≤ r.length) : rCount ⟨uv x ++ r, false, d⟩ = (x, ⟨r, false, d⟩) := by
  rw [rCount, rNat_to x r d h, if_neg (by simp only; omega)]
theorem rCount_le (s : RS) : (rCount s).1 ≤ (rCount s).2.l.length := by
  unfold rCount
  split
  · exact Nat.zero_le _
  · omega
theorem rText_ok {s s' : RS} {x : List UInt8} (h : rText s = (x, s')) (hb : s'.bad = false) : s = ⟨uv x.length ++ (x ++ s'.l), false, s'.dep⟩ ∧ x.length ≤ 9223372036854775807 := by
  simp only [rText, Prod.mk.injEq] at h
  obtain ⟨rfl, rfl⟩ := h
  obtain ⟨h1, h2, h3⟩ := rCount_ok (s := s) (s' := (rCount s).2) (x := (rCount s).1) rfl hb
  have hl : ((rCount s).2.l.take (rCount s).1).length = (rCount s).1 := by simp; omega
  rw [hl, List.take_append_drop]
  exact ⟨h1, h3⟩
theorem rText_to (x r : List UInt8) (d : Nat) (h : x.length ≤ 9223372036854775807) : rText ⟨uv x.length ++ (x ++ r), false, d⟩ = (x, ⟨r, false, d⟩) := by
  rw [rText, rCount_to x.length (x ++ r) d h (by simp)]
  simp
theorem rByte_dep (s : RS) : (rByte s).2.dep = s.dep := by
  obtain ⟨l, b, d⟩ := s
  cases l <;> rfl
theorem rUns_dep : ∀ (k i u : Nat) (s : RS), (rUns k i u s).2.dep = s.dep
  | 0, _, _, s => rfl
  | k + 1, i, u, s => by
    rw [rUns]
    split
    · exact rByte_dep s
    · split
      · exact rByte_dep s
      · rw [rUns_dep]; exact rByte_dep s
theorem rU_dep (s : RS) : (rU s).2.dep = s.dep := rUns_dep _ _ _ s
theorem rNat_dep (s : RS) : (rNat s).2.dep = s.dep := by
  unfold rNat
  split
  · exact rU_dep s
  · exact rU_dep s
theorem rCount_dep (s : RS) : (rCount s).2.dep = s.dep := by
  unfold rCount
  split
  · exact rNat_dep s
  · exact rNat_dep s
theorem rText_dep (s : RS) : (rText s).2.dep = s.dep := rCount_dep s
/-- what g reads without a fault is what enc writes -/
def Reads {α : Type} (g : RS → α × RS) (enc : α → List UInt8) (ok : α → Prop) : Prop :=
  ∀ s x s', g s = (x, s') → s'.bad = false → s = ⟨enc x ++ s'.l, false, s'.dep⟩ ∧ ok x
theorem rLoop_ok {α : Type} {g : RS → α × RS} {enc : α → List UInt8} {ok : α → Prop} (hg : Reads g enc ok) : ∀ (n : Nat) (s s' : RS) (l : List α), rLoop g n s = (l, s') → s'.bad = false → s = ⟨l.flatMap enc ++ s'.l, false, s'.dep⟩ ∧ (∀ x ∈ l, ok x) ∧ l.length = n
  | 0, s, s', l, h, hb => by
    simp only [rLoop, Prod.mk.injEq] at h
    obtain ⟨rfl, rfl⟩ := h
    obtain ⟨sl, sb, sd⟩ := s
    dsimp only at hb
    subst hb
    exact ⟨rfl, by simp, rfl⟩
  | n + 1, s, s', l, h, hb => by
    rw [rLoop] at h
    split at h
    · rename_i hbad
      simp only [Prod.mk.injEq] at h
      rw [h.2, hb] at hbad; cases hbad
    · generalize hgs : g s = p at h
      obtain ⟨x, s1⟩ := p
      dsimp only at h
      generalize hrl : rLoop g n s1 = q at h
      obtain ⟨r, s2⟩ := q
      simp only [Prod.mk.injEq] at h
      obtain ⟨rfl, rfl⟩ := h
      obtain ⟨h1, h2, h3⟩ := rLoop_ok hg n s1 _ _ hrl hb
      have hb2 : s1.bad = false := by rw [h1]
      obtain ⟨h4, h5⟩ := hg s x s1 hgs hb2
      refine ⟨?_, ?_, by simp [h3]⟩
      · rw [h4, h1]
        simp
      · intro y hy
        rcases List.mem_cons.1 hy with rfl | hy
        · exact h5
        · exact h2 y hy
theorem rLoop_to {α : Type} {g : RS → α × RS} {enc : α → List UInt8} : ∀ (l : List α) (r : List UInt8) (d : Nat), (∀ x ∈ l, ∀ r, g ⟨enc x ++ r, false, d⟩ = (x, ⟨r, false, d⟩)) → rLoop g l.length ⟨l.flatMap enc ++ r, false, d⟩ = (l, ⟨r, false, d⟩)
  | [], r, d, _ => rfl
  | a :: l, r, d, h => by
    rw [List.length_cons, rLoop, if_neg (by simp)]
    rw [List.flatMap_cons, List.append_assoc, h a (by simp)]
    dsimp only
    rw [rLoop_to l r d fun x hx => h x (List.mem_cons_of_mem _ hx)]
theorem rSome_ok {α : Type} {g : RS → α × RS} {enc : α → List UInt8} {ok : α → Prop} (hg : Reads g enc ok) {s s' : RS} {l : List α} (h : rSome g s = (l, s')) (hb : s'.bad = false) : s = ⟨uv l.length ++ (l.flatMap enc ++ s'.l), false, s'.dep⟩ ∧ (∀ x ∈ l, ok x) ∧ l.length ≤ 9223372036854775807 := by
  unfold rSome at h
  obtain ⟨h1, h2, h3⟩ := rLoop_ok hg _ _ _ _ h hb
  have hb2 : (rCount s).2.bad = false := by rw [h1]
  obtain ⟨h4, h5, h6⟩ := rCount_ok (s := s) (s' := (rCount s).2) (x := (rCount s).1) rfl hb2
  refine ⟨?_, h2, by omega⟩
  rw [h4, h3, h1]
theorem rSome_to {α : Type} {g : RS → α × RS} {enc : α → List UInt8} (l : List α) (r : List UInt8) (d : Nat) (hl : l.length ≤ 9223372036854775807) (h1 : ∀ x ∈ l, 1 ≤ (enc x).length) (h : ∀ x ∈ l, ∀ r, g ⟨enc x ++ r, false, d⟩ = (x, ⟨r, false, d⟩)) : rSome g ⟨uv l.length ++ (l.flatMap enc ++ r), false, d⟩ = (l, ⟨r, false, d⟩) := by
  have hlen : ∀ l : List α, (∀ x ∈ l, 1 ≤ (enc x).length) → l.length ≤ (l.flatMap enc).length := by
    intro l
    induction l with
    | nil => simp
    | cons a l ih =>
      intro h
      have h2 := ih fun x hx => h x (List.mem_cons_of_mem _ hx)
      have h3 := h a (by simp)
      simp only [List.flatMap_cons, List.length_append, List.length_cons]
      omega
  have := hlen l h1
  rw [rSome, rCount_to l.length _ d hl (by simp only [List.length_append]; omega)]
  exact rLoop_to l r d h
mutual
/-- kinds are bytes -/
def V.kin : V → Prop
  | .mk k _ _ l => (0 ≤ k ∧ k < 256) ∧ V.kins l
def V.kins : List V → Prop
  | [] => True
  | v :: r => v.kin ∧ V.kins r
end
theorem V.kins_iff : ∀ l : List V, V.kins l ↔ ∀ v ∈ l, v.kin
  | [] => by simp [V.kins]
  | v :: l => by simp [V.kins, V.kins_iff l]
theorem kb_nat (a : UInt8) : kb (a.toNat : Int) = a := by
  unfold kb
  have h := a.toNat_lt
  have : ((a.toNat : Int) % 256).toNat = a.toNat := by omega
  rw [this]
  simp
theorem toNat_kb {k : Int} (h : 0 ≤ k ∧ k < 256) : (((kb k).toNat : Nat) : Int) = k := by
  unfold kb
  rw [UInt8.toNat_ofNat', Nat.mod_eq_of_lt (by omega)]
  omega
theorem rVal_ok : ∀ f, Reads (rVal f) V.bytes fun v => v.ok ∧ v.kin
  | 0, s, v, s', h, hb => by
    simp only [rVal, RS.fail, Prod.mk.injEq] at h
    rw [← h.2] at hb; cases hb
  | f + 1, s, v, s', h, hb => by
    rw [rVal] at h
    split at h
    · simp only [RS.fail, Prod.mk.injEq] at h
      rw [← h.2] at hb; cases hb
    · dsimp only at h
      generalize e1 : rByte s.up = p1 at h
      obtain ⟨x1, s1⟩ := p1
      dsimp only at h
      generalize e2 : rInt s1 = p2 at h
      obtain ⟨x2, s2⟩ := p2
      dsimp only at h
      generalize e3 : rText s2 = p3 at h
      obtain ⟨x3, s3⟩ := p3
      dsimp only at h
      generalize e4 : rSome (rVal f) s3 = p4 at h
      obtain ⟨x4, s4⟩ := p4
      simp only [Prod.mk.injEq] at h
      obtain ⟨rfl, rfl⟩ := h
      simp only [RS.down] at hb
      obtain ⟨g1, g2, g3⟩ := rSome_ok (rVal_ok f) e4 hb
      obtain ⟨g4, g5⟩ := rText_ok e3 (by rw [g1])
      obtain ⟨g6, g7⟩ := rInt_ok e2 (by rw [g4])
      obtain ⟨a, g8, g9⟩ := rByte_ok e1 (by rw [g6])
      refine ⟨?_, ⟨?_, ?_⟩⟩
      · have e : s = s.up.down := by obtain ⟨l, b, d⟩ := s; rfl
        rw [e, g9, g6, g4, g1]
        simp only [RS.down, V.bytes, V.bytesAll_eq, g8, kb_nat, List.append_assoc, List.cons_append, bs_size']
        simp [bs]
      · simp only [V.ok]
        exact ⟨g7, (V.oks_iff _).2 fun x hx => (g2 x hx).1⟩
      · simp only [V.kin, g8]
        exact ⟨⟨by omega, by have := a.toNat_lt; omega⟩, (V.kins_iff _).2 fun x hx => (g2 x hx).2⟩
/-- how deep it is at most -/
def V.low (v : V) (d : Nat) : Bool := v.every (fun _ e => decide (e ≤ 40)) d
theorem V.bytes_pos (v : V) : 1 ≤ v.bytes.length := by
  obtain ⟨k, n, t, l⟩ := v
  simp [V.bytes]
theorem rVal_to (v : V) : ∀ (f d : Nat) (r : List UInt8), v.ok → v.kin → v.bytes.length ≤ 9223372036854775807 → v.low (d + 1) = true → 40 ≤ d + f → rVal f ⟨v.bytes ++ r, false, d⟩ = (v, ⟨r, false, d⟩) := by
  induction v using V.ind with
  | h k n t l ih =>
    intro f d r hok hkin hlen hlow hf
    simp only [V.low, V.every, V.everys_eq, Bool.and_eq_true, decide_eq_true_eq, List.all_eq_true] at hlow
    obtain ⟨hd, hsub⟩ := hlow
    simp only [V.ok] at hok
    simp only [V.kin] at hkin
    obtain ⟨g, rfl⟩ : ∃ g, f = g + 1 := ⟨f - 1, by omega⟩
    rw [rVal, if_neg (by simp only; omega)]
    have hb : rByte (RS.up ⟨(V.mk k n t l).bytes ++ r, false, d⟩) = ((kb k).toNat, ⟨uv (zz n) ++ (uv t.size ++ (t.data.toList ++ (uv l.length ++ (l.flatMap V.bytes ++ r)))), false, d + 1⟩) := by
      simp only [V.bytes, V.bytesAll_eq, RS.up, rByte, List.cons_append, List.append_assoc]
    simp only [V.bytes, V.bytesAll_eq, List.length_cons, List.length_append, sz_len] at hlen
    have hl1 : ∀ x ∈ l, x.bytes.length ≤ (l.flatMap V.bytes).length := by
      intro x hx
      obtain ⟨i, hi⟩ := List.mem_iff_getElem?.1 hx
      have h1 := flat_snoc' V.bytes hi
      have h2 := congrArg (fun r => (List.flatMap V.bytes r).length) (List.take_append_drop (i + 1) l)
      simp only [List.flatMap_append, List.length_append] at h2
      rw [h1, List.length_append] at h2
      omega
    have hll : l.length ≤ (l.flatMap V.bytes).length := by
      clear ih hl1 hsub hok hkin hb hlen
      induction l with
      | nil => simp
      | cons a l ih => have := V.bytes_pos a; simp only [List.flatMap_cons, List.length_append, List.length_cons]; omega
    have hs : rSome (rVal g) ⟨uv l.length ++ (l.flatMap V.bytes ++ r), false, d + 1⟩ = (l, ⟨r, false, d + 1⟩) := by
      refine rSome_to l r (d + 1) (by omega) (fun x _ => V.bytes_pos x) fun x hx r => ?_
      have h1 := hl1 x hx
      exact ih x hx g (d + 1) r ((V.oks_iff l).1 hok.2 x hx) ((V.kins_iff l).1 hkin.2 x hx) (by omega) (hsub x hx) (by omega)
    have ht : rText ⟨uv t.size ++ (t.data.toList ++ (uv l.length ++ (l.flatMap V.bytes ++ r))), false, d + 1⟩ = (t.data.toList, ⟨uv l.length ++ (l.flatMap V.bytes ++ r), false, d + 1⟩) := by
      have := rText_to t.data.toList (uv l.length ++ (l.flatMap V.bytes ++ r)) (d + 1) (by rw [sz_len]; omega)
      rwa [sz_len] at this
    simp only [hb]
    rw [rInt_to n _ (d + 1) hok.1]
    simp only [ht, hs, toNat_kb hkin.1, bs_self]
    rfl
end Go.Proofs.Ythgackidonocpaa
namespace Go.Proofs.Ythgackidonocpaa
open Go.RowKit
theorem wrap_u64 (a : Int) : IntKind.u64.wrap a = a % 18446744073709551616 := by
  simp [IntKind.wrap, IntKind.bits, IntKind.signed]
theorem xor_ones {x : Nat} (h : x < 2 ^ 64) : x ^^^ (2 ^ 64 - 1) = 2 ^ 64 - 1 - x := by
  have h1 : (BitVec.ofNat 64 x ^^^ BitVec.allOnes 64).toNat = x ^^^ (2 ^ 64 - 1) := by
    rw [BitVec.toNat_xor, BitVec.toNat_ofNat, BitVec.toNat_allOnes, Nat.mod_eq_of_lt h]
  rw [← h1, BitVec.xor_allOnes, BitVec.toNat_not, BitVec.toNat_ofNat, Nat.mod_eq_of_lt h]
theorem zz_xor {n : Int} (h : inI n) : IntKind.u64.wrap ((((IntKind.u64.wrap (IntKind.u64.wrap n * 2 ^ (min (1 : Int).toNat IntKind.u64.bits))) % 2 ^ IntKind.u64.bits).toNat ^^^ ((IntKind.u64.wrap (n.fdiv (2 ^ (min (63 : Int).toNat IntKind.i64.bits)))) % 2 ^ IntKind.u64.bits).toNat : Nat) : Int) = ((zz n : Nat) : Int) := by
  have e1 : (2 : Int) ^ (min (1 : Int).toNat IntKind.u64.bits) = 2 := rfl
  have e2 : (2 : Int) ^ (min (63 : Int).toNat IntKind.i64.bits) = 9223372036854775808 := rfl
  have e3 : (2 : Int) ^ IntKind.u64.bits = 18446744073709551616 := rfl
  rw [e1, e2, e3, Int.fdiv_eq_ediv_of_nonneg _ (by omega)]
  simp only [wrap_u64]
  unfold inI at h
  unfold zz
  by_cases h0 : 0 ≤ n
  · rw [if_pos h0]
    have g1 : (n / 9223372036854775808 % 18446744073709551616 % 18446744073709551616).toNat = 0 := by omega
    rw [g1, Nat.xor_zero]
    omega
  · rw [if_neg h0]
    have g1 : (n / 9223372036854775808 % 18446744073709551616 % 18446744073709551616).toNat = 2 ^ 64 - 1 := by omega
    rw [g1, xor_ones (by omega)]
    omega
set_option maxRecDepth 100000 in
set_option maxHeartbeats 2000000 in
theorem nat_ag (v : Value) (l : List UInt8) (n : Nat) (hn : n < 9223372036854775808) (hl : l.length ≤ 1099511627776) :
    AG Try.prog 169 [.own 0 v, .c (.lit (.int .i64 (n : Int)))] [.row v 5 1 l.length (byts l)] (Grew 5 (l ++ uv n)) := by
  have hc := unsigned_ag v l n (by omega) hl
  refine ag_enter 1 tok Try.func169 Try.ntmps169 Try.results169 rfl (by kernel_rfl) rfl fun F => ?_
  repeat (first | refine gG ?_)
  refine lo_conv tok rfl rfl rfl rfl (r := (n : Int)) (by rw [wrap_u64]; omega) ?_
  repeat (first | refine gG ?_)
  refine zCallG [0] hc ?_
  rintro _ _ ⟨v', rfl, rfl⟩
  refine ⟨.own 0 v', _, re_own, rfl, rfl, ?_⟩
  repeat (first | refine gG ?_)
  refine zG ?_
  exact ⟨_, rfl, rfl⟩
set_option maxRecDepth 100000 in
set_option maxHeartbeats 2000000 in
theorem int_ag (v : Value) (l : List UInt8) (n : Int) (hn : inI n) (hl : l.length ≤ 1099511627776) :
    AG Try.prog 156 [.own 0 v, .c (.lit (.int .i64 n))] [.row v 5 1 l.length (byts l)] (Grew 5 (l ++ uv (zz n))) := by
  have hc := unsigned_ag v l (zz n) (zz_lt hn) hl
  refine ag_enter 1 tok Try.func156 Try.ntmps156 Try.results156 rfl (by kernel_rfl) rfl fun F => ?_
  repeat (first | refine gG ?_)
  refine lo_conv tok rfl rfl rfl rfl rfl ?_
  repeat (first | refine gG ?_)
  refine lo_shl rfl rfl (by omega) rfl ?_
  repeat (first | refine gG ?_)
  refine lo_shr rfl rfl (by omega) rfl ?_
  repeat (first | refine gG ?_)
  refine lo_conv tok rfl rfl rfl rfl rfl ?_
  repeat (first | refine gG ?_)
  refine lo_xor rfl rfl (zz_xor hn) ?_
  repeat (first | refine gG ?_)
  refine zCallG [0] hc ?_
  rintro _ _ ⟨v', rfl, rfl⟩
  refine ⟨.own 0 v', _, re_own, rfl, rfl, ?_⟩
  repeat (first | refine gG ?_)
  refine zG ?_
  exact ⟨_, rfl, rfl⟩
set_option maxRecDepth 100000 in
set_option maxHeartbeats 2000000 in
theorem text_ag (v : Value) (l : List UInt8) (s : ByteArray) (hl : l.length + s.size ≤ 1099511627776) :
    AG Try.prog 158 [.own 0 v, .c (.lit (.string s))] [.row v 5 1 l.length (byts l)] (Grew 5 (l ++ (uv s.size ++ s.data.toList))) := by
  have hc := nat_ag v l s.size (by omega) (by omega)
  have hul := uv_len64 (n := s.size) (by omega)
  refine ag_enter 1 tok Try.func158 Try.ntmps158 Try.results158 rfl (by kernel_rfl) rfl fun F => ?_
  repeat (first | refine gG ?_ | refine zN1 (fun hlen => ?_) | refine zN2 (fun hlen => ?_) | refine zAp (fun _ => ?_))
  refine zCallG [0] hc ?_
  rintro _ _ ⟨v', rfl, rfl⟩
  refine ⟨.own 0 v', _, re_own, rfl, rfl, ?_⟩
  repeat (first | refine gG ?_ | refine zN1 (fun hlen => ?_) | refine zN2 (fun hlen => ?_) | refine zAp (fun _ => ?_))
  refine zAps (s := s) (n := (l ++ uv s.size).length) (by simp only [List.length_append]; omega) (fun v'' => ?_)
  repeat (first | refine gG ?_ | refine zN1 (fun hlen => ?_) | refine zN2 (fun hlen => ?_) | refine zAp (fun _ => ?_))
  refine zG ?_
  exact ⟨_, rfl, by simp only [byts_app, List.length_append, sz_len, List.append_assoc, Nat.add_assoc]⟩
end Go.Proofs.Ythgackidonocpaa
namespace Go.Proofs.Ythgackidonocpaa
open Go.RowKit
theorem kb_T (k : Int) : bytT (kb k) = T.lit (.int .u8 (IntKind.u8.wrap k)) := by
  have h1 : IntKind.u8.wrap k = k % 256 := by simp [IntKind.wrap, IntKind.bits, IntKind.signed]
  have h2 : (k % 256).toNat < 256 := by omega
  unfold bytT kb
  rw [h1, UInt8.toNat_ofNat', Nat.mod_eq_of_lt (by simpa using h2)]
  congr 2
  omega
set_option maxRecDepth 100000 in
set_option maxHeartbeats 2000000 in
theorem listV_ag (f : FuncId) (enc : V → List UInt8) (l : List V) (hf : ∀ x ∈ l, ∀ (v : Value) (b : List UInt8), b.length + (enc x).length ≤ 1099511627776 → AG Try.prog f [.own 0 v, .c x.t] [.row v 5 1 b.length (byts b)] (Grew 5 (b ++ enc x)))
    (v : Value) (b : List UInt8) (hn : l.length < 9223372036854775808) (hb : b.length + (uv l.length ++ l.flatMap enc).length ≤ 1099511627776) :
    AG Try.prog 157 [.own 0 v, .c (V.row l), .fn (.func f) []] [.row v 5 1 b.length (byts b)] (Grew 5 (b ++ (uv l.length ++ l.flatMap enc))) := by
  have hc := nat_ag v b l.length hn (by omega)
  refine ag_enter 1 tok Try.func157 Try.ntmps157 Try.results157 rfl (by kernel_rfl) rfl fun F => ?_
  repeat (first | refine gG ?_ | refine zN1 (fun hlen => ?_) | refine zN2 (fun hlen => ?_) | refine zAl (fun _ => ?_))
  refine zCallG [0] hc ?_
  rintro _ _ ⟨v', rfl, rfl⟩
  refine ⟨.own 0 v', _, re_own, rfl, rfl, ?_⟩
  repeat (first | refine gG ?_ | refine zN1 (fun hlen => ?_) | refine zN2 (fun hlen => ?_) | refine zAl (fun _ => ?_))
  refine x_loop [0, 8, 15, 16, 17, 18, 19, 20, 21, 22, 23] (fun y : Nat × Value => [(15, .c (.lit (.int .i64 (y.1 : Nat)))), (0, .own 0 y.2)]) (fun y => [.row y.2 5 1 (b ++ (uv l.length ++ (l.take y.1).flatMap enc)).length (byts (b ++ (uv l.length ++ (l.take y.1).flatMap enc)))])
    (fun y => y.1 ≤ l.length) (fun y => l.length - y.1) (0, v') (Nat.zero_le _) ⟨rfl, rfl, trivial⟩ (by simp) ?_
  rintro ⟨k, u⟩ hk
  dsimp only at hk ⊢
  repeat (first | refine gG ?_ | refine zN1 (fun hlen => ?_) | refine zN2 (fun hlen => ?_) | refine zAl (fun _ => ?_))
  refine x_cond rfl (fun h => ?_) (fun h => ?_)
  · have hk' : k < l.length := by simpa using h
    obtain ⟨a, ha⟩ := nth hk'
    have hsn := flat_snoc' enc ha
    have hle : ((l.take (k + 1)).flatMap enc).length ≤ (l.flatMap enc).length := by
      have := congrArg (fun r => (List.flatMap enc r).length) (List.take_append_drop (k + 1) l)
      simp only [List.flatMap_append, List.length_append] at this
      omega
    have hca := hf a (List.mem_of_getElem? ha) u (b ++ (uv l.length ++ (l.take k).flatMap enc)) (by
      rw [hsn] at hle
      simp only [List.length_append] at hle hb ⊢
      omega)
    repeat (first | refine gG ?_ | refine zN1 (fun hlen => ?_) | refine zN2 (fun hlen => ?_) | refine zAl (fun _ => ?_))
    refine zIx (k) (hk') ?_
    repeat (first | refine gG ?_ | refine zN1 (fun hlen => ?_) | refine zN2 (fun hlen => ?_) | refine zAl (fun _ => ?_))
    refine zEl (V.at ha) (V.ts_len a) ?_
    obtain ⟨ka, na, ta, la⟩ := a
    repeat (first | refine gG ?_ | refine zN1 (fun hlen => ?_) | refine zN2 (fun hlen => ?_) | refine zAl (fun _ => ?_))
    refine zCallG [0] hca ?_
    rintro _ _ ⟨u', rfl, rfl⟩
    refine ⟨.own 0 u', _, re_own, rfl, rfl, ?_⟩
    repeat (first | refine gG ?_ | refine zN1 (fun hlen => ?_) | refine zN2 (fun hlen => ?_) | refine zAl (fun _ => ?_))
    exact ⟨(k + 1, u'), hk', by simp only; omega, x_wkd 1 ⟨rfl, rfl, trivial⟩ (by simp only [hsn, List.append_assoc]; rfl) (by repeat (first | exact ag_refl | refine ag_upd rfl ?_ | refine ag_at rfl rfl ?_))⟩
  · have hk' : k = l.length := by have : ¬ k < l.length := by simpa using h
                                  omega
    subst hk'
    repeat (first | refine gG ?_ | refine zN1 (fun hlen => ?_) | refine zN2 (fun hlen => ?_) | refine zAl (fun _ => ?_))
    refine zG ?_
    refine ⟨_, rfl, ?_⟩
    rw [List.take_length]
set_option maxRecDepth 100000 in
set_option maxHeartbeats 2000000 in
theorem appendValue_ag (x : V) : x.ok → ∀ (v : Value) (b : List UInt8), b.length + x.bytes.length ≤ 1099511627776 →
    AG Try.prog 74 [.own 0 v, .c x.t] [.row v 5 1 b.length (byts b)] (Grew 5 (b ++ x.bytes)) := by
  induction x using V.ind with
  | h k n t l ih =>
    intro hok v b hb
    simp only [V.ok] at hok
    have hok2 := (V.oks_iff l).1 hok.2
    simp only [V.bytes, V.bytesAll_eq, List.length_cons, List.length_append, sz_len] at hb
    have hi1 : ∀ v1, AG Try.prog 156 [.own 0 v1, .c (.lit (.int .i64 n))] [.row v1 5 1 (b.length + 1) (byts b ++ [.lit (.int .u8 (IntKind.u8.wrap k))])] (Grew 5 (b ++ (kb k :: uv (zz n)))) := by
      intro v1
      have h := int_ag v1 (b ++ [kb k]) n hok.1 (by simp only [List.length_append, List.length_cons, List.length_nil]; omega)
      rw [← kb_T]
      simpa [byts] using h
    have hi2 := fun v2 => text_ag v2 (b ++ (kb k :: uv (zz n))) t (by simp only [List.length_append, List.length_cons]; omega)
    have hln : l.length ≤ 1099511627776 := by
      have h1 : ∀ r : List V, r.length ≤ (r.flatMap V.bytes).length := by
        intro r
        induction r with
        | nil => simp
        | cons a r ih => obtain ⟨ka, na, ta, la⟩ := a; simp only [List.flatMap_cons, List.length_append, List.length_cons, V.bytes]; omega
      have := h1 l
      omega
    have hi3 := fun v3 => listV_ag 74 V.bytes l (fun x hx v b hb => ih x hx (hok2 x hx) v b hb) v3 (b ++ (kb k :: uv (zz n)) ++ (uv t.size ++ t.data.toList)) (by omega) (by simp only [List.length_append, List.length_cons, sz_len]; omega)
    refine ag_enter 1 tok Try.func74 Try.ntmps74 Try.results74 rfl (by kernel_rfl) rfl fun F => ?_
    repeat (first | refine gG ?_ | refine zBf ?_ | refine zAp (fun _ => ?_))
    refine ac_draw [1, 1, 1, 1, 1, 2, 0, 0, 2, 1] [0, 1, 2, 3, 4, 6, 7, 5, 8, 9] (by kernel_rfl) (by kernel_rfl) ?_
    refine gW ?_
    apply w_q; (focus exact rfl); (focus exact rfl); focus (intro _; (refine lo_conv tok rfl rfl rfl rfl rfl ?_); exact det_refl)
    refine gW ?_
    apply w_l; (focus exact rfl); (focus exact rfl); (first | (refine zkL ?_; first | refine zL1 ?_ | refine zL2 ?_ | refine zL3 ?_ | refine zLp ?_) | refine zM ?_ | (refine zkF ?_; first | refine zF1 ?_ | refine zF2 ?_ | refine zF3 ?_) | refine zA ?_ | (refine zkB ?_; first | refine zC5 ?_ | refine zC6 ?_ | refine zC1 ?_ | refine zC2 ?_ | refine zC3 ?_ | refine zC4 ?_ | refine zS5 ?_ | refine zS6 ?_ | refine zS1 ?_ | refine zS2 ?_ | refine zS3 ?_ | refine zS4 ?_ | refine zInc ?_ | refine zQ1 ?_ | refine zQ2 ?_ | refine zQ3 ?_ | refine zQ4 ?_ | refine zQ5 ?_ | refine zQ6 ?_) | (refine zkI ?_; first | refine zN1 (fun hlen => ?_) | refine zN2 (fun hlen => ?_) | refine zN3 ?_ | refine zN4 ?_ | refine zAp (fun _ => ?_)) | refine zS ?_ | refine zAl (fun _ => ?_) | refine zBx (fun _ => ?_) | refine zPt ?_ | refine zPf ?_ | refine zE ?_ | refine zEA ?_ | refine zNot ?_ | refine zBd ?_ | refine zBs ?_ | refine zFn ?_ | refine zK1 ?_ | refine zK2 ?_)
    apply w_l; (focus exact rfl); (focus exact rfl); (refine zCallG [0] (hi1 _) ?_; rintro _ _ ⟨v', rfl, rfl⟩; refine ⟨.own 0 v', _, re_own, rfl, rfl, ?_⟩)
    refine gW ?_
    refine w_nil ?_
    repeat (first | refine gG ?_ | refine zBx (fun _ => ?_) | refine zAp (fun _ => ?_))
    rename_i v2
    refine ac_draw [1, 1, 1, 2, 0, 0, 2, 1] [0, 1, 2, 4, 5, 3, 6, 7] (by kernel_rfl) (by kernel_rfl) ?_
    refine gW ?_
    apply w_l; (focus exact rfl); (focus exact rfl); (refine zCallG [0] (hi2 _) ?_; rintro _ _ ⟨v', rfl, rfl⟩; refine ⟨.own 0 v', _, re_own, rfl, rfl, ?_⟩)
    apply w_l; (focus exact rfl); (focus exact rfl); (refine zCallG [0] (hi3 _) ?_; rintro _ _ ⟨v', rfl, rfl⟩; refine ⟨.own 0 v', _, re_own, rfl, rfl, ?_⟩)
    refine gW ?_
    refine w_nil ?_
    repeat (first | refine gG ?_ | refine zBx (fun _ => ?_) | refine zAp (fun _ => ?_))
    refine zG ?_
    exact ⟨_, rfl, by simp only [V.bytes, V.bytesAll_eq, List.append_assoc, List.cons_append]⟩
end Go.Proofs.Ythgackidonocpaa
namespace Go.Proofs.Ythgackidonocpaa
open Go.RowKit
theorem all_snoc {α : Type} (q : α → Bool) {l : List α} {k : Nat} {a : α} (h : l[k]? = some a) : (l.take (k + 1)).all q = ((l.take k).all q && q a) := by
  obtain ⟨h1, rfl⟩ := List.getElem?_eq_some_iff.1 h
  rw [List.take_succ_eq_append_getElem h1, List.all_append]
  simp
theorem all_no {α : Type} (q : α → Bool) {l : List α} {k : Nat} {a : α} (h : l[k]? = some a) (hq : q a = false) : l.all q = false := by
  rw [List.all_eq_false]
  exact ⟨a, List.mem_of_getElem? h, by simp [hq]⟩
/-- not too deep, no text too long -/
def bigN (x : V) (d : Nat) : Bool := !decide ((40 : Int) < (d : Int)) && !decide ((4000 : Int) < (x.text.size : Int))
def V.fitB (v : V) (L d : Nat) : Bool := decide (v.size ≤ L) && v.every bigN d
theorem V.fitB_eq (k n : Int) (t : ByteArray) (l : List V) (L d : Nat) : (V.mk k n t l).fitB L d = (decide (V.sizes l + 1 ≤ L) && ((!decide ((40 : Int) < (d : Int)) && !decide ((4000 : Int) < (t.size : Int))) && l.all fun x => x.every bigN (d + 1))) := by
  simp only [V.fitB, V.size, V.every, V.everys_eq, bigN, V.text]
  rfl
theorem V.sizes_snoc {l : List V} {k : Nat} {a : V} (h : l[k]? = some a) : V.sizes (l.take (k + 1)) = V.sizes (l.take k) + a.size := by
  obtain ⟨h1, rfl⟩ := List.getElem?_eq_some_iff.1 h
  rw [List.take_succ_eq_append_getElem h1, V.sizes_app]
  simp [V.sizes]
set_option maxRecDepth 100000 in
set_option maxHeartbeats 2000000 in
theorem fits_ag (v : V) : ∀ (L d b : Nat), L ≤ 400 → d ≤ 41 →
    AG Try.prog 76 [.c v.t, .ptr 0 b 0, .c (.lit (.int .i64 (d : Int)))] [.box b 3 [.c (.lit (.int .i64 (L : Int)))]]
      (fun r hs => ∃ x : Int, hs = [.box b 3 [.c (.lit (.int .i64 x))]] ∧ r = .c (.lit (.bool (v.fitB L d))) ∧ (v.fitB L d = true → x = (L : Int) - (v.size : Int))) := by
  induction v using V.ind with
  | h k n t l ih =>
    intro L d b hL hd
    refine ag_enter 1 tok Try.func76 Try.ntmps76 Try.results76 rfl (by kernel_rfl) rfl fun F => ?_
    repeat (first | refine gG ?_ | refine zN1 (fun hlen => ?_) | refine zN2 (fun hlen => ?_) | refine zAl (fun _ => ?_) | refine zBf ?_)
    refine zSub ?_
    cases d1 : decide ((L : Int) - 1 < 0)
    · cases d2 : decide ((40 : Int) < (d : Int))
      · cases d3 : decide ((4000 : Int) < (t.size : Int))
        · have hd1 : ¬ (L : Int) - 1 < 0 := of_decide_eq_false d1
          have hd2 : ¬ (40 : Int) < (d : Int) := of_decide_eq_false d2
          have hL1 : ((L - 1 : Nat) : Int) = (L : Int) - 1 := by omega
          repeat (first | refine gG ?_ | refine zN1 (fun hlen => ?_) | refine zN2 (fun hlen => ?_) | refine zAl (fun _ => ?_) | refine zBx (fun _ => ?_))
          refine x_loop [6, 8, 31, 32, 33, 34, 35, 36, 37, 38, 39, 40, 41] (fun y : Nat × Nat => [(31, .c (.lit (.int .i64 (y.1 : Nat))))]) (fun y => [.box b 3 [.c (.lit (.int .i64 (y.2 : Int)))]])
            (fun y => y.1 ≤ l.length ∧ y.2 + 1 + V.sizes (l.take y.1) = L ∧ (l.take y.1).all (fun x => x.every bigN (d + 1)) = true) (fun y => l.length - y.1) (0, L - 1) ⟨Nat.zero_le _, by simp [V.sizes]; omega, by simp⟩ ⟨rfl, trivial⟩ (by simp only [hL1]) ?_
          rintro ⟨i, m⟩ ⟨hi, hm, ha⟩
          dsimp only at hi hm ha ⊢
          repeat (first | refine gG ?_ | refine zN1 (fun hlen => ?_) | refine zN2 (fun hlen => ?_) | refine zAl (fun _ => ?_) | refine zBx (fun _ => ?_))
          refine x_cond rfl (fun h => ?_) (fun h => ?_)
          · have hi' : i < l.length := by simpa using h
            obtain ⟨a, hla⟩ := nth hi'
            have hc := ih a (List.mem_of_getElem? hla) m (d + 1) b (by omega) (by omega)
            have hsn := V.sizes_snoc hla
            have hsa := all_snoc (fun x => x.every bigN (d + 1)) hla
            have hle := V.take_sizes l (i + 1)
            repeat (first | refine gG ?_ | refine zN1 (fun hlen => ?_) | refine zN2 (fun hlen => ?_) | refine zAl (fun _ => ?_) | refine zBx (fun _ => ?_))
            refine zIx (i) (hi') ?_
            repeat (first | refine gG ?_ | refine zN1 (fun hlen => ?_) | refine zN2 (fun hlen => ?_) | refine zAl (fun _ => ?_) | refine zBx (fun _ => ?_))
            refine zEl (V.at hla) (V.ts_len a) ?_
            obtain ⟨ka, na, ta, la⟩ := a
            repeat (first | refine gG ?_ | refine zN1 (fun hlen => ?_) | refine zN2 (fun hlen => ?_) | refine zAl (fun _ => ?_) | refine zBx (fun _ => ?_))
            refine zCallG [0] hc ?_
            rintro _ _ ⟨x, rfl, rfl, hx⟩
            refine ⟨_, _, re_refl, rfl, rfl, ?_⟩
            cases hf : (V.mk ka na ta la).fitB m (d + 1)
            · repeat (first | refine gG ?_ | refine zN1 (fun hlen => ?_) | refine zN2 (fun hlen => ?_) | refine zAl (fun _ => ?_) | refine zBx (fun _ => ?_))
              refine zG ?_
              refine ⟨_, rfl, ?_, ?_⟩
              all_goals
                have hno : (V.mk k n t l).fitB L d = false := by
                  simp only [V.fitB, Bool.and_eq_false_iff, decide_eq_false_iff_not] at hf ⊢
                  rcases hf with hf | hf
                  · left; simp only [V.size] at hsn hf ⊢; omega
                  · right; rw [V.every, V.everys_eq, all_no _ hla hf, Bool.and_false]
                rw [hno]
              · rfl
              · intro h; cases h
            · have hx' := hx hf
              simp only [V.fitB, Bool.and_eq_true, decide_eq_true_eq] at hf
              repeat (first | refine gG ?_ | refine zN1 (fun hlen => ?_) | refine zN2 (fun hlen => ?_) | refine zAl (fun _ => ?_) | refine zBx (fun _ => ?_))
              refine ⟨(i + 1, m - (V.mk ka na ta la).size), ⟨hi', by simp only; omega, by simp only; rw [hsa, ha, hf.2]; rfl⟩, by simp only; omega, x_wkd 1 ⟨rfl, trivial⟩ ?_ (by repeat (first | exact ag_refl | refine ag_upd rfl ?_ | refine ag_at rfl rfl ?_))⟩
              have : ((m - (V.mk ka na ta la).size : Nat) : Int) = x := by omega
              simp only [this]
              rfl
          · have hi' : i = l.length := by have : ¬ i < l.length := by simpa using h
                                          omega
            subst hi'
            rw [List.take_length] at hm ha
            have hyes : (V.mk k n t l).fitB L d = true := by
              rw [V.fitB_eq, d2, d3, ha, decide_eq_true (show V.sizes l + 1 ≤ L by omega)]
              rfl
            repeat (first | refine gG ?_ | refine zN1 (fun hlen => ?_) | refine zN2 (fun hlen => ?_) | refine zAl (fun _ => ?_) | refine zBx (fun _ => ?_))
            refine zG ?_
            refine ⟨_, rfl, by rw [hyes]; rfl, fun _ => by simp only [V.size]; omega⟩
        · have hno : (V.mk k n t l).fitB L d = false := by rw [V.fitB_eq, d3]; simp
          repeat (first | refine gG ?_ | refine zN1 (fun hlen => ?_) | refine zN2 (fun hlen => ?_) | refine zAl (fun _ => ?_) | refine zBx (fun _ => ?_))
          refine zG ?_
          refine ⟨_, rfl, by rw [hno]; rfl, fun h => by rw [hno] at h; cases h⟩
      · have hno : (V.mk k n t l).fitB L d = false := by rw [V.fitB_eq, d2]; simp
        repeat (first | refine gG ?_ | refine zN1 (fun hlen => ?_) | refine zN2 (fun hlen => ?_) | refine zAl (fun _ => ?_) | refine zBx (fun _ => ?_))
        refine zG ?_
        refine ⟨_, rfl, by rw [hno]; rfl, fun h => by rw [hno] at h; cases h⟩
    · have hno : (V.mk k n t l).fitB L d = false := by
        have hd1 : (L : Int) - 1 < 0 := of_decide_eq_true d1
        rw [V.fitB_eq, decide_eq_false (show ¬ V.sizes l + 1 ≤ L by omega)]
        rfl
      repeat (first | refine gG ?_ | refine zN1 (fun hlen => ?_) | refine zN2 (fun hlen => ?_) | refine zAl (fun _ => ?_) | refine zBx (fun _ => ?_))
      refine zG ?_
      refine ⟨_, rfl, by rw [hno]; rfl, fun h => by rw [hno] at h; cases h⟩
/-- a node uses only the fields of its kind -/
def formN : V → Bool
  | .mk k n t l =>
    if k = 1 then decide (n = 0) && decide (t = ⟨#[]⟩) && decide ((l.length : Int) = 0)
    else if k = 2 then decide (t = ⟨#[]⟩) && decide ((l.length : Int) = 0)
    else if k = 6 then decide (t = ⟨#[]⟩) && decide ((l.length : Int) = 0)
    else if k = 3 then (decide (n = 0) || decide (n = 1)) && decide (t = ⟨#[]⟩) && decide ((l.length : Int) = 0)
    else if k = 4 then decide (n = 0) && decide ((l.length : Int) = 0)
    else if k = 5 then decide (n = 0) && !decide (t = ⟨#[]⟩)
    else if k = 7 then true
    else if k = 8 then decide (n = 0) && decide (t = ⟨#[]⟩) && decide ((l.length : Int) ≤ 1)
    else false
def formP (x : V) (_ : Nat) : Bool := formN x
theorem V.form_eq (k n : Int) (t : ByteArray) (l : List V) (d : Nat) : (V.mk k n t l).every formP d = (formN (.mk k n t l) && l.all fun x => x.every formP (d + 1)) := by
  rw [V.every, V.everys_eq]; rfl
set_option maxRecDepth 100000 in
set_option maxHeartbeats 2000000 in
theorem formed_af (v : V) : ∀ d : Nat, AF Try.prog 77 [v.t] (· = .lit (.bool (v.every formP d))) := by
  induction v using V.ind with
  | h k n t l ih =>
    intro d
    refine af_enter tok Try.func77 Try.ntmps77 Try.results77 rfl (by kernel_rfl) rfl rfl fun F hX => ?_
    repeat (first | refine gG ?_ | refine zN1 (fun hlen => ?_) | refine zN2 (fun hlen => ?_) | refine zAl (fun _ => ?_) | refine zBf ?_)
    refine ac_draw [1, 1, 1, 1, 1, 1, 1, 1, 1, 1, 1, 1, 1] [0, 1, 2, 3, 4, 5, 6, 7, 8, 9, 10, 11, 12] (by kernel_rfl) (by kernel_rfl) ?_
    refine gW ?_
    refine w_nil ?_
    refine ac_seq ?_
    refine x_join [18, 19, 20, 21, 22, 23, 24, 25, 26, 27, 28, 29, 30, 31, 32, 33, 34, 35, 36, 37, 38, 39, 40, 41, 42, 43, 44, 45, 46, 47, 48, 2, 3, 4, 5] (fun y : {y : Bool × Bool × Bool // (y.1 && y.2.1 && y.2.2) = formN (.mk k n t l)} => [(3, .c (.lit (.bool y.1.1))), (4, .c (.lit (.bool y.1.2.1))), (5, .c (.lit (.bool y.1.2.2)))]) (fun _ => []) ?_ ?_
    rotate_left
    · cases d1 : decide (k = 1)
      · cases d2 : decide (k = 2)
        · cases d6 : decide (k = 6)
          · cases d3 : decide (k = 3)
            · cases d4 : decide (k = 4)
              · cases d5 : decide (k = 5)
                · cases d7 : decide (k = 7)
                  · cases d8 : decide (k = 8)
                    · have hno : formN (.mk k n t l) = false := by simp_all [formN]
                      repeat (first | refine gG ?_ | refine zN1 (fun hlen => ?_) | refine zN2 (fun hlen => ?_) | refine zAl (fun _ => ?_) | refine zBx (fun _ => ?_))
                      first | refine zR ?_ | refine zQ ?_
                      rw [V.form_eq, hno]; rfl
                    · obtain rfl := of_decide_eq_true d8
                      repeat (first | refine gG ?_ | refine zN1 (fun hlen => ?_) | refine zN2 (fun hlen => ?_) | refine zAl (fun _ => ?_) | refine zBx (fun _ => ?_))
                      exact ⟨⟨(decide (n = 0), decide (t = ⟨#[]⟩), decide ((l.length : Int) ≤ 1)), by simp [formN]⟩, x_wkd 0 ⟨rfl, rfl, rfl, trivial⟩ rfl (by repeat (first | exact ag_refl | refine ag_upd rfl ?_ | refine ag_at rfl rfl ?_))⟩
                  · obtain rfl := of_decide_eq_true d7
                    repeat (first | refine gG ?_ | refine zN1 (fun hlen => ?_) | refine zN2 (fun hlen => ?_) | refine zAl (fun _ => ?_) | refine zBx (fun _ => ?_))
                    exact ⟨⟨(true, true, true), by simp [formN]⟩, x_wkd 0 ⟨rfl, rfl, rfl, trivial⟩ rfl (by repeat (first | exact ag_refl | refine ag_upd rfl ?_ | refine ag_at rfl rfl ?_))⟩
                · obtain rfl := of_decide_eq_true d5
                  repeat (first | refine gG ?_ | refine zN1 (fun hlen => ?_) | refine zN2 (fun hlen => ?_) | refine zAl (fun _ => ?_) | refine zBx (fun _ => ?_))
                  exact ⟨⟨(decide (n = 0), !decide (t = ⟨#[]⟩), true), by simp [formN]⟩, x_wkd 0 ⟨rfl, rfl, rfl, trivial⟩ rfl (by repeat (first | exact ag_refl | refine ag_upd rfl ?_ | refine ag_at rfl rfl ?_))⟩
              · obtain rfl := of_decide_eq_true d4
                repeat (first | refine gG ?_ | refine zN1 (fun hlen => ?_) | refine zN2 (fun hlen => ?_) | refine zAl (fun _ => ?_) | refine zBx (fun _ => ?_))
                exact ⟨⟨(decide (n = 0), true, decide ((l.length : Int) = 0)), by simp [formN]⟩, x_wkd 0 ⟨rfl, rfl, rfl, trivial⟩ rfl (by repeat (first | exact ag_refl | refine ag_upd rfl ?_ | refine ag_at rfl rfl ?_))⟩
            · obtain rfl := of_decide_eq_true d3
              cases dz : decide (n = 0)
              · repeat (first | refine gG ?_ | refine zN1 (fun hlen => ?_) | refine zN2 (fun hlen => ?_) | refine zAl (fun _ => ?_) | refine zBx (fun _ => ?_))
                exact ⟨⟨(decide (n = 1), decide (t = ⟨#[]⟩), decide ((l.length : Int) = 0)), by simp [formN, dz]⟩, x_wkd 0 ⟨rfl, rfl, rfl, trivial⟩ rfl (by repeat (first | exact ag_refl | refine ag_upd rfl ?_ | refine ag_at rfl rfl ?_))⟩
              · repeat (first | refine gG ?_ | refine zN1 (fun hlen => ?_) | refine zN2 (fun hlen => ?_) | refine zAl (fun _ => ?_) | refine zBx (fun _ => ?_))
                exact ⟨⟨(true, decide (t = ⟨#[]⟩), decide ((l.length : Int) = 0)), by simp [formN, dz]⟩, x_wkd 0 ⟨rfl, rfl, rfl, trivial⟩ rfl (by repeat (first | exact ag_refl | refine ag_upd rfl ?_ | refine ag_at rfl rfl ?_))⟩
          · obtain rfl := of_decide_eq_true d6
            repeat (first | refine gG ?_ | refine zN1 (fun hlen => ?_) | refine zN2 (fun hlen => ?_) | refine zAl (fun _ => ?_) | refine zBx (fun _ => ?_))
            exact ⟨⟨(true, decide (t = ⟨#[]⟩), decide ((l.length : Int) = 0)), by simp [formN]⟩, x_wkd 0 ⟨rfl, rfl, rfl, trivial⟩ rfl (by repeat (first | exact ag_refl | refine ag_upd rfl ?_ | refine ag_at rfl rfl ?_))⟩
        · obtain rfl := of_decide_eq_true d2
          repeat (first | refine gG ?_ | refine zN1 (fun hlen => ?_) | refine zN2 (fun hlen => ?_) | refine zAl (fun _ => ?_) | refine zBx (fun _ => ?_))
          exact ⟨⟨(true, decide (t = ⟨#[]⟩), decide ((l.length : Int) = 0)), by simp [formN]⟩, x_wkd 0 ⟨rfl, rfl, rfl, trivial⟩ rfl (by repeat (first | exact ag_refl | refine ag_upd rfl ?_ | refine ag_at rfl rfl ?_))⟩
      · obtain rfl := of_decide_eq_true d1
        repeat (first | refine gG ?_ | refine zN1 (fun hlen => ?_) | refine zN2 (fun hlen => ?_) | refine zAl (fun _ => ?_) | refine zBx (fun _ => ?_))
        exact ⟨⟨(decide (n = 0), decide (t = ⟨#[]⟩), decide ((l.length : Int) = 0)), by simp [formN]⟩, x_wkd 0 ⟨rfl, rfl, rfl, trivial⟩ rfl (by repeat (first | exact ag_refl | refine ag_upd rfl ?_ | refine ag_at rfl rfl ?_))⟩
    rintro ⟨⟨y1, y2, y3⟩, hy⟩
    dsimp only at hy ⊢
    cases y1
    · repeat (first | refine gG ?_ | refine zN1 (fun hlen => ?_) | refine zN2 (fun hlen => ?_) | refine zAl (fun _ => ?_) | refine zBx (fun _ => ?_))
      first | refine zR ?_ | refine zQ ?_
      rw [V.form_eq, ← hy]; rfl
    cases y2
    · repeat (first | refine gG ?_ | refine zN1 (fun hlen => ?_) | refine zN2 (fun hlen => ?_) | refine zAl (fun _ => ?_) | refine zBx (fun _ => ?_))
      first | refine zR ?_ | refine zQ ?_
      rw [V.form_eq, ← hy]; rfl
    cases y3
    · repeat (first | refine gG ?_ | refine zN1 (fun hlen => ?_) | refine zN2 (fun hlen => ?_) | refine zAl (fun _ => ?_) | refine zBx (fun _ => ?_))
      first | refine zR ?_ | refine zQ ?_
      rw [V.form_eq, ← hy]; rfl
    repeat (first | refine gG ?_ | refine zN1 (fun hlen => ?_) | refine zN2 (fun hlen => ?_) | refine zAl (fun _ => ?_) | refine zBx (fun _ => ?_))
    refine x_loop [2, 7, 62, 63, 64, 65, 66, 67, 68, 69] (fun y : Nat => [(62, .c (.lit (.int .i64 (y : Nat))))]) (fun _ => []) (fun y => y ≤ l.length ∧ (l.take y).all (fun x => x.every formP (d + 1)) = true) (fun y => l.length - y) 0 ⟨Nat.zero_le _, by simp⟩ ⟨rfl, trivial⟩ rfl ?_
    rintro i ⟨hi, ha⟩
    repeat (first | refine gG ?_ | refine zN1 (fun hlen => ?_) | refine zN2 (fun hlen => ?_) | refine zAl (fun _ => ?_) | refine zBx (fun _ => ?_))
    refine x_cond rfl (fun h => ?_) (fun h => ?_)
    · have hi' : i < l.length := by simpa using h
      obtain ⟨a, hla⟩ := nth hi'
      have hc := ih a (List.mem_of_getElem? hla) (d + 1)
      have hsa := all_snoc (fun x => x.every formP (d + 1)) hla
      repeat (first | refine gG ?_ | refine zN1 (fun hlen => ?_) | refine zN2 (fun hlen => ?_) | refine zAl (fun _ => ?_) | refine zBx (fun _ => ?_))
      refine zIx (i) (hi') ?_
      repeat (first | refine gG ?_ | refine zN1 (fun hlen => ?_) | refine zN2 (fun hlen => ?_) | refine zAl (fun _ => ?_) | refine zBx (fun _ => ?_))
      refine zEl (V.at hla) (V.ts_len a) ?_
      obtain ⟨ka, na, ta, la⟩ := a
      repeat (first | refine gG ?_ | refine zN1 (fun hlen => ?_) | refine zN2 (fun hlen => ?_) | refine zAl (fun _ => ?_) | refine zBx (fun _ => ?_))
      refine zCall (hc) ?_
      rintro _ rfl
      cases hf : (V.mk ka na ta la).every formP (d + 1)
      · repeat (first | refine gG ?_ | refine zN1 (fun hlen => ?_) | refine zN2 (fun hlen => ?_) | refine zAl (fun _ => ?_) | refine zBx (fun _ => ?_))
        first | refine zR ?_ | refine zQ ?_
        rw [V.form_eq, all_no _ hla hf, Bool.and_false]; rfl
      · repeat (first | refine gG ?_ | refine zN1 (fun hlen => ?_) | refine zN2 (fun hlen => ?_) | refine zAl (fun _ => ?_) | refine zBx (fun _ => ?_))
        exact ⟨i + 1, ⟨hi', by rw [hsa, ha, hf]; rfl⟩, by omega, x_wkd 0 ⟨rfl, trivial⟩ rfl (by repeat (first | exact ag_refl | refine ag_upd rfl ?_ | refine ag_at rfl rfl ?_))⟩
    · have hi' : i = l.length := by have : ¬ i < l.length := by simpa using h
                                    omega
      subst hi'
      rw [List.take_length] at ha
      repeat (first | refine gG ?_ | refine zN1 (fun hlen => ?_) | refine zN2 (fun hlen => ?_) | refine zAl (fun _ => ?_) | refine zBx (fun _ => ?_))
      first | refine zR ?_ | refine zQ ?_
      rw [V.form_eq, ha, ← hy]; rfl
/-- what Check says -/
def V.check (v : V) : Int := if v.fitB 400 1 then (if v.every formP 1 then 0 else 3) else 2
set_option maxRecDepth 100000 in
set_option maxHeartbeats 2000000 in
theorem check_af (v : V) : AF Try.prog 17 [v.t] (· = .lit (.int .i64 v.check)) := by
  have hc := fun b => fits_ag v 400 1 b (by omega) (by omega)
  have hf := formed_af v 1
  obtain ⟨k, n, t, l⟩ := v
  refine af_enter tok Try.func17 Try.ntmps17 Try.results17 rfl (by kernel_rfl) rfl rfl fun F hX => ?_
  repeat (first | refine gG ?_ | refine zAl (fun _ => ?_) | refine zBf ?_)
  refine zCallG [0] (hc _) ?_
  rintro _ _ ⟨x, rfl, rfl, -⟩
  refine ⟨_, _, re_refl, rfl, rfl, ?_⟩
  cases h1 : (V.mk k n t l).fitB 400 1
  · repeat (first | refine gG ?_ | refine zAl (fun _ => ?_) | refine zBx (fun _ => ?_))
    first | refine zR ?_ | refine zQ ?_
    rw [V.check, h1]; rfl
  · repeat (first | refine gG ?_ | refine zAl (fun _ => ?_) | refine zBx (fun _ => ?_))
    refine zCall (hf) ?_
    rintro _ rfl
    cases h2 : (V.mk k n t l).every formP 1
    · repeat (first | refine gG ?_ | refine zAl (fun _ => ?_) | refine zBx (fun _ => ?_))
      first | refine zR ?_ | refine zQ ?_
      rw [V.check, h1, h2]; rfl
    · repeat (first | refine gG ?_ | refine zAl (fun _ => ?_) | refine zBx (fun _ => ?_))
      first | refine zR ?_ | refine zQ ?_
      rw [V.check, h1, h2]; rfl
end Go.Proofs.Ythgackidonocpaa
namespace Go.Proofs.Ythgackidonocpaa
open Go.RowKit
structure TS where
  l : List UInt8
  ok : Bool
def TS.fail (s : TS) : TS := { s with ok := false }
def tOne (s : TS) : Nat × TS := match s.l with | [] => (0, s.fail) | a :: r => (a.toNat, { s with l := r })
def tNatL : Nat → Nat → Nat → TS → Nat × TS
  | 0, _, _, s => (0, s.fail)
  | k + 1, i, n, s => if (tOne s).1 < 128 then (n + (tOne s).1 % 128 * 128 ^ i, (tOne s).2) else tNatL k (i + 1) (n + (tOne s).1 % 128 * 128 ^ i) (tOne s).2
def tNat (s : TS) : Nat × TS := tNatL 9 0 0 s
def tNumL : Nat → Nat → Nat → TS → Int × TS
  | 0, _, _, s => (0, s.fail)
  | k + 1, i, n, s => if (tOne s).1 < 128 then (dz ((n + (tOne s).1 % 128 * 128 ^ i) % 2 ^ 64), (tOne s).2) else tNumL k (i + 1) ((n + (tOne s).1 % 128 * 128 ^ i) % 2 ^ 64) (tOne s).2
def tNum (s : TS) : Int × TS := tNumL 10 0 0 s
def tText (s : TS) : List UInt8 × TS := if (tNat s).2.l.length < (tNat s).1 ∨ 4000 < (tNat s).1 then ([], (tNat s).2.fail) else ((tNat s).2.l.take (tNat s).1, { (tNat s).2 with l := (tNat s).2.l.drop (tNat s).1 })
abbrev TG (α : Type) := TS → Int → α × TS × Int
def tLoop {α : Type} (g : TG α) : Nat → TS → Int → List α × TS × Int
  | 0, s, m => ([], s, m)
  | n + 1, s, m => if s.ok then ((g s m).1 :: (tLoop g n (g s m).2.1 (g s m).2.2).1, (tLoop g n (g s m).2.1 (g s m).2.2).2) else ([], s, m)
def tVal : Nat → TG V
  | 0, s, m => (V.zero, s.fail, m - 1)
  | d + 1, s, m =>
    if m - 1 < 0 then (V.zero, s.fail, m - 1)
    else if s.ok = false then (V.zero, s, m - 1)
    else
      let p1 := tOne s
      let p2 := tNum p1.2
      let p3 := tText p2.2
      let p4 := tNat p3.2
      let p5 := tLoop (tVal d) p4.1 p4.2 (m - 1)
      (.mk p1.1 p2.1 (bs p3.1) p5.1, p5.2)
theorem tOne_lt (s : TS) : (tOne s).1 < 256 := by
  obtain ⟨l, b⟩ := s
  cases l with
  | nil => simp [tOne]
  | cons a r => exact a.toNat_lt
theorem tOne_small {y : Nat} (hy : y < 128) (r : List UInt8) : tOne ⟨uv y ++ r, true⟩ = (y, ⟨r, true⟩) := by
  rw [uv_small hy]
  simp only [tOne, List.cons_append, List.nil_append]
  rw [UInt8.toNat_ofNat', Nat.mod_eq_of_lt (by omega)]
theorem tOne_big {y : Nat} (hy : ¬ y < 128) (r : List UInt8) : tOne ⟨uv y ++ r, true⟩ = (y % 128 + 128, ⟨uv (y / 128) ++ r, true⟩) := by
  rw [uv_big hy]
  simp only [tOne, List.cons_append]
  rw [UInt8.toNat_ofNat', Nat.mod_eq_of_lt (by omega)]
theorem digits (n y i : Nat) : n + y % 128 * 128 ^ i + y / 128 * 128 ^ (i + 1) = n + y * 128 ^ i := by
  rw [Nat.pow_succ]
  have : y / 128 * (128 ^ i * 128) = 128 * (y / 128) * 128 ^ i := by
    rw [Nat.mul_comm (128 ^ i) 128, ← Nat.mul_assoc, Nat.mul_comm (y / 128) 128]
  rw [this, Nat.add_assoc, ← Nat.add_mul]
  congr 2
  omega
theorem tNatL_to : ∀ (k i n y : Nat) (r : List UInt8), i + k = 9 → i ≤ 8 → y < 2 ^ (63 - 7 * i) → tNatL k i n ⟨uv y ++ r, true⟩ = (n + y * 128 ^ i, ⟨r, true⟩)
  | 0, i, _, _, _, h, h8, _ => by omega
  | k + 1, i, n, y, r, hk, h8, hy => by
    rw [tNatL]
    by_cases h : y < 128
    · rw [tOne_small h]
      dsimp only
      rw [if_pos h, Nat.mod_eq_of_lt h]
    · have hi7 : i ≤ 7 := by
        rcases Nat.lt_or_ge i 8 with h' | h'
        · omega
        · have : i = 8 := by omega
          subst this
          have e : 2 ^ (63 - 7 * 8) = 128 := rfl
          omega
      have hp : 2 ^ (63 - 7 * i) = 128 * 2 ^ (63 - 7 * (i + 1)) := by rw [show 63 - 7 * i = 7 + (63 - 7 * (i + 1)) by omega, Nat.pow_add]
      rw [hp] at hy
      rw [tOne_big h]
      dsimp only
      rw [if_neg (by omega), tNatL_to k (i + 1) _ (y / 128) r (by omega) (by omega) (by omega)]
      have e : (y % 128 + 128) % 128 = y % 128 := by omega
      rw [e, digits]
theorem tNat_to (x : Nat) (r : List UInt8) (h : x ≤ 9223372036854775807) : tNat ⟨uv x ++ r, true⟩ = (x, ⟨r, true⟩) := by
  rw [tNat, tNatL_to 9 0 0 x r rfl (by omega) (by have e : 2 ^ (63 - 7 * 0) = 9223372036854775808 := rfl
                                                  omega)]
  simp
theorem tNumL_to : ∀ (k i n y : Nat) (r : List UInt8), i + k = 10 → i ≤ 9 → n < 128 ^ i → y < 2 ^ (64 - 7 * i) → tNumL k i n ⟨uv y ++ r, true⟩ = (dz (n + y * 128 ^ i), ⟨r, true⟩)
  | 0, i, _, _, _, h, h8, _, _ => by omega
  | k + 1, i, n, y, r, hk, h9, hn, hy => by
    have hall : n + y * 128 ^ i < 2 ^ 64 := by
      have h2 : (2 : Nat) ^ 64 = 2 ^ (64 - 7 * i) * 128 ^ i := by
        rw [show (128 : Nat) ^ i = 2 ^ (7 * i) by rw [Nat.pow_mul], ← Nat.pow_add, show 64 - 7 * i + 7 * i = 64 by omega]
      rw [h2]
      calc n + y * 128 ^ i < 128 ^ i + y * 128 ^ i := by omega
        _ = (y + 1) * 128 ^ i := by rw [Nat.add_mul]; omega
        _ ≤ _ := Nat.mul_le_mul_right _ hy
    rw [tNumL]
    by_cases h : y < 128
    · rw [tOne_small h]
      dsimp only
      rw [if_pos h, Nat.mod_eq_of_lt h, Nat.mod_eq_of_lt hall]
    · have hi8 : i ≤ 8 := by
        rcases Nat.lt_or_ge i 9 with h' | h'
        · omega
        · have : i = 9 := by omega
          subst this
          have e : 2 ^ (64 - 7 * 9) = 2 := rfl
          omega
      have hd := digits n y i
      rw [pow7 hi8] at hy
      rw [tOne_big h]
      dsimp only
      have e : (y % 128 + 128) % 128 = y % 128 := by omega
      have hlt : n + y % 128 * 128 ^ i < 128 ^ (i + 1) := by
        have h1 : y % 128 * 128 ^ i ≤ 127 * 128 ^ i := Nat.mul_le_mul_right _ (by omega)
        rw [Nat.pow_succ]
        omega
      rw [if_neg (by omega), e, Nat.mod_eq_of_lt (by omega), tNumL_to k (i + 1) _ (y / 128) r (by omega) (by omega) hlt (by omega), hd]
theorem tNum_to (x : Int) (r : List UInt8) (h : inI x) : tNum ⟨uv (zz x) ++ r, true⟩ = (x, ⟨r, true⟩) := by
  rw [tNum, tNumL_to 10 0 0 (zz x) r rfl (by omega) (by simp) (zz_lt h)]
  simp [dz_zz]
theorem tText_to (x r : List UInt8) (h : x.length ≤ 4000) : tText ⟨uv x.length ++ (x ++ r), true⟩ = (x, ⟨r, true⟩) := by
  rw [tText, tNat_to x.length (x ++ r) (by omega), if_neg (by simp only [List.length_append]; omega)]
  simp
theorem tLoop_to {α : Type} {g : TG α} {enc : α → List UInt8} {size : α → Nat} : ∀ (l : List α) (r : List UInt8) (m : Int), (∀ x ∈ l, ∀ r m, (((l.map size).sum : Nat) : Int) ≥ (size x : Nat) → (size x : Int) ≤ m → g ⟨enc x ++ r, true⟩ m = (x, ⟨r, true⟩, m - size x)) → (((l.map size).sum : Nat) : Int) ≤ m → tLoop g l.length ⟨l.flatMap enc ++ r, true⟩ m = (l, ⟨r, true⟩, m - ((l.map size).sum : Nat))
  | [], r, m, _, _ => by simp [tLoop]
  | a :: l, r, m, h, hm => by
    simp only [List.map_cons, List.sum_cons] at hm h ⊢
    rw [List.length_cons, tLoop, if_pos rfl]
    rw [List.flatMap_cons, List.append_assoc, h a (by simp) _ _ (by omega) (by omega)]
    dsimp only
    rw [tLoop_to l r _ (fun x hx r m h1 h2 => h x (List.mem_cons_of_mem _ hx) r m (by omega) h2) (by omega)]
    simp only [Prod.mk.injEq, true_and]
    omega
theorem every_mem {p : V → Nat → Bool} {k n : Int} {t : ByteArray} {l : List V} {d : Nat} (h : (V.mk k n t l).every p d = true) : p (.mk k n t l) d = true ∧ ∀ x ∈ l, x.every p (d + 1) = true := by
  rw [V.every, V.everys_eq, Bool.and_eq_true, List.all_eq_true] at h
  exact h
theorem V.sizes_sum : ∀ l : List V, V.sizes l = (l.map V.size).sum
  | [] => rfl
  | v :: l => by simp [V.sizes, V.sizes_sum l]
theorem tVal_to (v : V) : ∀ (f d e : Nat) (r : List UInt8) (m : Int), v.ok → v.kin → v.every (fun x _ => decide (x.text.size ≤ 4000)) e = true → v.low (d + 1) = true → d + f = 40 → (v.size : Int) ≤ m → v.size ≤ 1048576 → tVal f ⟨v.bytes ++ r, true⟩ m = (v, ⟨r, true⟩, m - v.size) := by
  induction v using V.ind with
  | h k n t l ih =>
    intro f d e r m hok hkin hsh hlow hf hm hbig
    simp only [V.low, V.every, V.everys_eq, Bool.and_eq_true, decide_eq_true_eq, List.all_eq_true] at hlow
    obtain ⟨hd, hsub⟩ := hlow
    obtain ⟨hs1, hs2⟩ := every_mem hsh
    have hs1 : t.size ≤ 4000 := of_decide_eq_true (p := t.size ≤ 4000) hs1
    simp only [V.ok] at hok
    simp only [V.kin] at hkin
    simp only [V.size] at hm hbig
    obtain ⟨g, rfl⟩ : ∃ g, f = g + 1 := ⟨f - 1, by omega⟩
    rw [tVal, if_neg (by omega), if_neg (by simp)]
    have hb : tOne ⟨(V.mk k n t l).bytes ++ r, true⟩ = ((kb k).toNat, ⟨uv (zz n) ++ (uv t.size ++ (t.data.toList ++ (uv l.length ++ (l.flatMap V.bytes ++ r)))), true⟩) := by
      simp only [V.bytes, V.bytesAll_eq, tOne, List.cons_append, List.append_assoc]
    have hlen := V.len_sizes l
    have hl : tLoop (tVal g) l.length ⟨l.flatMap V.bytes ++ r, true⟩ (m - 1) = (l, ⟨r, true⟩, m - 1 - ((l.map V.size).sum : Nat)) := by
      refine tLoop_to l r (m - 1) (fun x hx r' m' h1 h2 => ?_) (by rw [← V.sizes_sum]; omega)
      have h3 := V.size_mem hx
      exact ih x hx g (d + 1) (e + 1) r' m' ((V.oks_iff l).1 hok.2 x hx) ((V.kins_iff l).1 hkin.2 x hx) (hs2 x hx) (hsub x hx) (by omega) h2 (by omega)
    have ht : tText ⟨uv t.size ++ (t.data.toList ++ (uv l.length ++ (l.flatMap V.bytes ++ r))), true⟩ = (t.data.toList, ⟨uv l.length ++ (l.flatMap V.bytes ++ r), true⟩) := by
      have := tText_to t.data.toList (uv l.length ++ (l.flatMap V.bytes ++ r)) (by rw [sz_len]; omega)
      rwa [sz_len] at this
    simp only [hb]
    rw [tNum_to n _ hok.1]
    simp only [ht]
    rw [tNat_to l.length _ (by omega)]
    simp only [hl, toNat_kb hkin.1, bs_self, V.size, V.sizes_sum, Prod.mk.injEq, true_and]
    omega
theorem tNumL_in : ∀ (k i n : Nat) (s : TS), inI (tNumL k i n s).1
  | 0, _, _, s => by simp [tNumL, inI]
  | k + 1, i, n, s => by
    rw [tNumL]
    split
    · exact dz_in (Nat.mod_lt _ (by decide))
    · exact tNumL_in k _ _ _
theorem tText_len (s : TS) : (tText s).1.length ≤ 4000 := by
  unfold tText
  split
  · simp
  · rename_i h
    simp only [List.length_take]
    omega
/-- what is taken is of so many nodes asq were counted -/
structure TFair (g : TG V) : Prop where
  fair : ∀ s m, 0 ≤ m → (g s m).1.ok ∧ ((g s m).1.size : Int) ≤ m - (g s m).2.2 ∧ -1 ≤ (g s m).2.2 ∧ ((g s m).2.1.ok = true → 0 ≤ (g s m).2.2) ∧ (g s m).1.txt ≤ 4000 * (g s m).1.size
theorem tLoop_fair {g : TG V} (hg : TFair g) : ∀ (n : Nat) (s : TS) (m : Int), -1 ≤ m → (s.ok = true → 0 ≤ m) → V.oks (tLoop g n s m).1 ∧ (V.sizes (tLoop g n s m).1 : Int) ≤ m - (tLoop g n s m).2.2 ∧ -1 ≤ (tLoop g n s m).2.2 ∧ ((tLoop g n s m).2.1.ok = true → 0 ≤ (tLoop g n s m).2.2) ∧ V.txts (tLoop g n s m).1 ≤ 4000 * V.sizes (tLoop g n s m).1
  | 0, s, m, h1, h2 => by simp [tLoop, V.oks, V.sizes, V.txts]; exact ⟨h1, h2⟩
  | n + 1, s, m, h1, h2 => by
    rw [tLoop]
    split
    · rename_i hok
      obtain ⟨g1, g2, g3, g4, g5⟩ := hg.fair s m (h2 hok)
      obtain ⟨i1, i2, i3, i4, i5⟩ := tLoop_fair hg n (g s m).2.1 (g s m).2.2 g3 g4
      simp only [V.oks, V.sizes, V.txts]
      exact ⟨⟨g1, i1⟩, by omega, i3, i4, by omega⟩
    · simp [V.oks, V.sizes, V.txts]; exact ⟨h1, h2⟩
theorem zero_fair : V.zero.ok ∧ V.zero.size = 1 ∧ V.zero.txt = 0 := by
  refine ⟨by simp [V.zero, V.ok, V.oks, inI], by simp [V.zero, V.size, V.sizes], by simp [V.zero, V.txt, V.txts]; rfl⟩
theorem tVal_fair : ∀ d, TFair (tVal d)
  | 0 => ⟨fun s m hm => by
    obtain ⟨z1, z2, z3⟩ := zero_fair
    simp only [tVal, TS.fail, z2, z3]
    exact ⟨z1, by omega, by omega, (fun h => by cases h), by omega⟩⟩
  | d + 1 => ⟨fun s m hm => by
    obtain ⟨z1, z2, z3⟩ := zero_fair
    rw [tVal]
    split
    · simp only [TS.fail, z2, z3]
      exact ⟨z1, by omega, by omega, (fun h => by cases h), by omega⟩
    · rename_i h0
      split
      · simp only [z2, z3]
        exact ⟨z1, by omega, by omega, (fun _ => by omega), by omega⟩
      · dsimp only
        have hn := tNumL_in 10 0 0 (tOne s).2
        have ht := tText_len (tNum (tOne s).2).2
        obtain ⟨i1, i2, i3, i4, i5⟩ := tLoop_fair (tVal_fair d) (tNat (tText (tNum (tOne s).2).2).2).1 (tNat (tText (tNum (tOne s).2).2).2).2 (m - 1) (by omega) (fun _ => by omega)
        generalize tLoop (tVal d) (tNat (tText (tNum (tOne s).2).2).2).1 (tNat (tText (tNum (tOne s).2).2).2).2 (m - 1) = q at *
        generalize tText (tNum (tOne s).2).2 = q3 at *
        simp only [V.ok, V.size, V.txt, bs_size']
        exact ⟨⟨hn, i1⟩, by omega, i3, i4, by omega⟩⟩
theorem tNatL_lt : ∀ (k i n : Nat) (s : TS), i + k = 9 → n < 128 ^ i → (tNatL k i n s).1 < 128 ^ 9
  | 0, i, n, s, h, hn => by simp [tNatL]
  | k + 1, i, n, s, h, hn => by
    have h1 : (tOne s).1 % 128 * 128 ^ i ≤ 127 * 128 ^ i := Nat.mul_le_mul_right _ (by omega)
    have h2 : n + (tOne s).1 % 128 * 128 ^ i < 128 ^ (i + 1) := by rw [Nat.pow_succ]; omega
    rw [tNatL]
    split
    · have : 128 ^ (i + 1) ≤ 128 ^ 9 := Nat.pow_le_pow_right (by omega) (by omega)
      simp only
      omega
    · exact tNatL_lt k (i + 1) _ _ (by omega) h2
theorem tNat_lt (s : TS) : (tNat s).1 ≤ 9223372036854775807 := by
  have h := tNatL_lt 9 0 0 s rfl (by simp)
  have e : 128 ^ 9 = 9223372036854775808 := rfl
  rw [e] at h
  unfold tNat
  omega
end Go.Proofs.Ythgackidonocpaa
namespace Go.Proofs.Ythgackidonocpaa
open Go.RowKit
theorem tmod128 (u : Nat) : ((u : Int)).tmod 128 = ((u % 128 : Nat) : Int) := by
  rw [Int.tmod_eq_emod_of_nonneg (by omega)]; omega
theorem tdiv128 (u : Nat) : ((u : Int)).tdiv 128 = ((u / 128 : Nat) : Int) := by
  rw [Int.tdiv_eq_ediv_of_nonneg (by omega)]; omega
theorem one_u8 {n : Nat} (h : n < 256) : [T.lit (.int .u8 (n : Int))] = byts [UInt8.ofNat n] := by rw [u8_of h]; rfl
theorem one_kb (k : Int) : [T.lit (.int .u8 (IntKind.u8.wrap k))] = byts [kb k] := by rw [← kb_T]; rfl
set_option maxRecDepth 100000 in
set_option maxHeartbeats 2000000 in
theorem rnat_af (n : Nat) (hn : n < 2 ^ 64) : AF Try.prog 107 [.lit (.int .u64 (n : Int))] (· = .lit (.string (bs (uv n)))) := by
  have hul := uv_len64 hn
  refine af_enter tok Try.func107 Try.ntmps107 Try.results107 rfl (by kernel_rfl) rfl rfl fun F hX => ?_
  repeat (first | refine gG ?_)
  refine x_loop [0, 3, 4, 5, 6, 7, 8, 9, 10, 11, 12, 13, 14, 15] (fun y : Nat × List UInt8 => [(0, .c (.lit (.int .u64 (y.1 : Int)))), (3, .c (.lit (.string (bs y.2))))]) (fun _ => [])
    (fun y => y.1 < 2 ^ 64 ∧ y.2 ++ uv y.1 = uv n) (fun y => y.1) (n, []) ⟨hn, rfl⟩ ⟨rfl, rfl, trivial⟩ rfl ?_
  rintro ⟨u, l⟩ ⟨hu, hinv⟩
  dsimp only at hu hinv ⊢
  have hlen : l.length + (uv u).length ≤ 10 := by
    have := congrArg List.length hinv
    simp only [List.length_append] at this
    omega
  repeat (first | refine gG ?_)
  refine x_cond rfl (fun h => ?_) (fun h => ?_)
  · have hu' : ¬ u < 128 := by have : (127 : Int) < (u : Int) := of_decide_eq_true h
                               omega
    rw [uv_big hu'] at hinv hlen
    simp only [List.length_cons] at hlen
    repeat (first | refine gG ?_)
    refine lo_rem rfl rfl (by omega) (tmod128 u) ?_
    repeat (first | refine gG ?_)
    refine lo_add rfl rfl (r := ((u % 128 + 128 : Nat) : Int)) (by rw [wrap_u64]; omega) ?_
    repeat (first | refine gG ?_)
    refine lo_conv tok rfl rfl rfl rfl (r := ((u % 128 + 128 : Nat) : Int)) (by rw [wrap_u8]; omega) ?_
    repeat (first | refine gG ?_)
    refine zStr [UInt8.ofNat (u % 128 + 128)] (one_u8 (show u % 128 + 128 < 256 by omega)) rfl ?_
    repeat (first | refine gG ?_)
    refine zCatb l [UInt8.ofNat (u % 128 + 128)] (by simp only [List.length_cons, List.length_nil]; omega) ?_
    repeat (first | refine gG ?_)
    refine lo_quo rfl rfl (by omega) (r := ((u / 128 : Nat) : Int)) (by rw [tdiv128, wrap_u64]; omega) ?_
    repeat (first | refine gG ?_)
    exact ⟨(u / 128, l ++ [UInt8.ofNat (u % 128 + 128)]), ⟨by simp only; omega, by simpa using hinv⟩, by simp only; omega, x_wkd 0 ⟨rfl, rfl, trivial⟩ rfl (by repeat (first | exact ag_refl | refine ag_upd rfl ?_ | refine ag_at rfl rfl ?_))⟩
  · have hu' : u < 128 := by have : ¬ (127 : Int) < (u : Int) := of_decide_eq_false h
                             omega
    rw [uv_small hu'] at hinv hlen
    simp only [List.length_cons, List.length_nil] at hlen
    repeat (first | refine gG ?_)
    refine lo_conv tok rfl rfl rfl rfl (r := (u : Int)) (by rw [wrap_u8]; omega) ?_
    repeat (first | refine gG ?_)
    refine zStr [UInt8.ofNat u] (one_u8 (show u < 256 by omega)) rfl ?_
    repeat (first | refine gG ?_)
    refine zCatb l [UInt8.ofNat u] (by simp only [List.length_cons, List.length_nil]; omega) ?_
    repeat (first | refine gG ?_)
    first | refine zR ?_ | refine zQ ?_
    rw [hinv]; rfl
set_option maxRecDepth 100000 in
set_option maxHeartbeats 2000000 in
theorem rnum_af (n : Int) (hn : inI n) : AF Try.prog 108 [.lit (.int .i64 n)] (· = .lit (.string (bs (uv (zz n))))) := by
  have hc := rnat_af (zz n) (zz_lt hn)
  unfold inI at hn
  refine af_enter tok Try.func108 Try.ntmps108 Try.results108 rfl (by kernel_rfl) rfl rfl fun F hX => ?_
  cases d1 : decide (n < 0)
  · have h0 : ¬ n < 0 := of_decide_eq_false d1
    repeat (first | refine gG ?_)
    refine lo_conv tok rfl rfl rfl rfl (r := n) (by rw [wrap_u64]; omega) ?_
    repeat (first | refine gG ?_)
    refine lo_mul rfl rfl (r := ((zz n : Nat) : Int)) (by rw [wrap_u64, zz, if_pos (by omega)]; omega) ?_
    repeat (first | refine gG ?_)
    refine zCall (hc) ?_
    rintro _ rfl
    repeat (first | refine gG ?_)
    first | refine zR ?_ | refine zQ ?_
    rfl
  · have h0 : n < 0 := of_decide_eq_true d1
    repeat (first | refine gG ?_)
    refine lo_add rfl rfl (r := n + 1) (by rw [IntWalk.i64_in _ (by omega)]) ?_
    repeat (first | refine gG ?_)
    refine lo_neg rfl (r := 0 - (n + 1)) (by rw [IntWalk.i64_in _ (by omega)]) ?_
    repeat (first | refine gG ?_)
    refine lo_conv tok rfl rfl rfl rfl (r := 0 - (n + 1)) (by rw [wrap_u64]; omega) ?_
    repeat (first | refine gG ?_)
    refine lo_mul rfl rfl (r := 2 * (0 - (n + 1))) (by rw [wrap_u64]; omega) ?_
    repeat (first | refine gG ?_)
    refine lo_add rfl rfl (r := ((zz n : Nat) : Int)) (by rw [wrap_u64, zz, if_neg (by omega)]; omega) ?_
    repeat (first | refine gG ?_)
    refine zCall (hc) ?_
    rintro _ rfl
    repeat (first | refine gG ?_)
    first | refine zR ?_ | refine zQ ?_
    rfl
set_option maxRecDepth 100000 in
set_option maxHeartbeats 4000000 in
theorem valueText_af (v : V) : v.ok → v.bytes.length ≤ 1099511627776 → AF Try.prog 75 [v.t] (· = .lit (.string (bs v.bytes))) := by
  induction v using V.ind with
  | h k n t l ih =>
    intro hok hb
    simp only [V.ok] at hok
    have hok2 := (V.oks_iff l).1 hok.2
    simp only [V.bytes, V.bytesAll_eq, List.length_cons, List.length_append, sz_len] at hb
    have hln : l.length ≤ 1099511627776 := by
      have h1 : ∀ r : List V, r.length ≤ (r.flatMap V.bytes).length := by
        intro r
        induction r with
        | nil => simp
        | cons a r ih => obtain ⟨ka, na, ta, la⟩ := a; simp only [List.flatMap_cons, List.length_append, List.length_cons, V.bytes]; omega
      have := h1 l
      omega
    have h1 := rnum_af n hok.1
    have h2 := rnat_af t.size (by omega)
    have h3 := rnat_af l.length (by omega)
    have w1 : IntKind.u64.wrap (t.size : Int) = (t.size : Int) := by rw [wrap_u64]; omega
    have w2 : IntKind.u64.wrap (l.length : Int) = (l.length : Int) := by rw [wrap_u64]; omega
    refine af_enter tok Try.func75 Try.ntmps75 Try.results75 rfl (by kernel_rfl) rfl rfl fun F hX => ?_
    repeat (first | refine gG ?_ | refine zN1 (fun hlen => ?_) | refine zN2 (fun hlen => ?_) | refine zAl (fun _ => ?_) | refine zBf ?_)
    refine ac_draw [1, 1, 1, 1, 1, 1, 1, 1, 1, 1, 1, 1, 1, 1, 1, 1, 1, 1, 1, 1, 1, 1, 1, 1, 1] [0, 1, 2, 3, 4, 5, 6, 7, 8, 9, 10, 11, 12, 13, 14, 15, 16, 17, 18, 19, 20, 21, 22, 23, 24] (by kernel_rfl) (by kernel_rfl) ?_
    refine gW ?_
    apply w_q; (focus exact rfl); (focus exact rfl); focus (intro _; (refine lo_conv tok rfl rfl rfl rfl rfl ?_); exact det_refl)
    refine gW ?_
    apply w_q; (focus exact rfl); (focus exact rfl); focus (intro _; (refine zStr [kb k] (one_kb k) rfl ?_); exact det_refl)
    refine gW ?_
    apply w_q; (focus exact rfl); (focus exact rfl); focus (intro _; (refine lo_call h1 rfl (by repeat (first | exact rzs_nil | apply rzs_cons | exact rz_c | exact rz_nil rfl | apply rz_agg | exact rz_own rfl | apply rz_fn | exact rz_ptr rfl | apply rz_tup)) ?_; rintro _ rfl); exact det_refl)
    apply w_q; (focus exact rfl); (focus exact rfl); focus (intro _; (refine zCatb [kb k] (uv (zz n)) (by simp only [List.length_cons, List.length_nil]; omega) ?_); exact det_refl)
    refine gW ?_
    apply w_q; (focus exact rfl); (focus exact rfl); focus (intro _; (refine lo_conv tok rfl rfl rfl rfl w1 ?_); exact det_refl)
    apply w_q; (focus exact rfl); (focus exact rfl); focus (intro _; (refine lo_call h2 rfl (by repeat (first | exact rzs_nil | apply rzs_cons | exact rz_c | exact rz_nil rfl | apply rz_agg | exact rz_own rfl | apply rz_fn | exact rz_ptr rfl | apply rz_tup)) ?_; rintro _ rfl); exact det_refl)
    apply w_q; (focus exact rfl); (focus exact rfl); focus (intro _; (refine zCatb ([kb k] ++ uv (zz n)) (uv t.size) (by simp only [List.length_append, List.length_cons, List.length_nil]; omega) ?_); exact det_refl)
    refine gW ?_
    apply w_q; (focus exact rfl); (focus exact rfl); focus (intro _; (refine zCatb ([kb k] ++ uv (zz n) ++ uv t.size) t.data.toList (by simp only [List.length_append, List.length_cons, List.length_nil, sz_len]; omega) ?_); exact det_refl)
    refine gW ?_
    apply w_q; (focus exact rfl); (focus exact rfl); focus (intro _; (refine lo_conv tok rfl rfl rfl rfl w2 ?_); exact det_refl)
    apply w_q; (focus exact rfl); (focus exact rfl); focus (intro _; (refine lo_call h3 rfl (by repeat (first | exact rzs_nil | apply rzs_cons | exact rz_c | exact rz_nil rfl | apply rz_agg | exact rz_own rfl | apply rz_fn | exact rz_ptr rfl | apply rz_tup)) ?_; rintro _ rfl); exact det_refl)
    apply w_q; (focus exact rfl); (focus exact rfl); focus (intro _; (refine zCatb ([kb k] ++ uv (zz n) ++ uv t.size ++ t.data.toList) (uv l.length) (by simp only [List.length_append, List.length_cons, List.length_nil, sz_len]; omega) ?_); exact det_refl)
    refine gW ?_
    refine w_nil ?_
    repeat (first | refine gG ?_ | refine zN1 (fun hlen => ?_) | refine zN2 (fun hlen => ?_) | refine zAl (fun _ => ?_) | refine zBx (fun _ => ?_))
    refine x_loop [3, 5, 33, 34, 35, 36, 37, 38, 39, 40, 41] (fun y : Nat => [(33, .c (.lit (.int .i64 (y : Nat)))), (3, .c (.lit (.string (bs ([kb k] ++ uv (zz n) ++ uv t.size ++ t.data.toList ++ uv l.length ++ (l.take y).flatMap V.bytes)))))]) (fun _ => []) (fun y => y ≤ l.length) (fun y => l.length - y) 0 (Nat.zero_le _) ⟨rfl, by simp; rfl, trivial⟩ rfl ?_
    intro i hi
    repeat (first | refine gG ?_ | refine zN1 (fun hlen => ?_) | refine zN2 (fun hlen => ?_) | refine zAl (fun _ => ?_) | refine zBx (fun _ => ?_))
    refine x_cond rfl (fun h => ?_) (fun h => ?_)
    · have hi' : i < l.length := by simpa using h
      obtain ⟨a, hla⟩ := nth hi'
      have hsn := flat_snoc' V.bytes hla
      have hle : ((l.take (i + 1)).flatMap V.bytes).length ≤ (l.flatMap V.bytes).length := by
        have := congrArg (fun r => (List.flatMap V.bytes r).length) (List.take_append_drop (i + 1) l)
        simp only [List.flatMap_append, List.length_append] at this
        omega
      rw [hsn, List.length_append] at hle
      have hc := ih a (List.mem_of_getElem? hla) (hok2 a (List.mem_of_getElem? hla)) (by omega)
      repeat (first | refine gG ?_ | refine zN1 (fun hlen => ?_) | refine zN2 (fun hlen => ?_) | refine zAl (fun _ => ?_) | refine zBx (fun _ => ?_))
      refine zIx (i) (hi') ?_
      repeat (first | refine gG ?_ | refine zN1 (fun hlen => ?_) | refine zN2 (fun hlen => ?_) | refine zAl (fun _ => ?_) | refine zBx (fun _ => ?_))
      refine zEl (V.at hla) (V.ts_len a) ?_
      obtain ⟨ka, na, ta, la⟩ := a
      repeat (first | refine gG ?_ | refine zN1 (fun hlen => ?_) | refine zN2 (fun hlen => ?_) | refine zAl (fun _ => ?_) | refine zBx (fun _ => ?_))
      refine zCall (hc) ?_
      rintro _ rfl
      repeat (first | refine gG ?_ | refine zN1 (fun hlen => ?_) | refine zN2 (fun hlen => ?_) | refine zAl (fun _ => ?_) | refine zBx (fun _ => ?_))
      refine zCatb ([kb k] ++ uv (zz n) ++ uv t.size ++ t.data.toList ++ uv l.length ++ (l.take i).flatMap V.bytes) (V.mk ka na ta la).bytes (by simp only [List.length_append, List.length_cons, List.length_nil, sz_len]; omega) ?_
      repeat (first | refine gG ?_ | refine zN1 (fun hlen => ?_) | refine zN2 (fun hlen => ?_) | refine zAl (fun _ => ?_) | refine zBx (fun _ => ?_))
      exact ⟨i + 1, hi', by omega, x_wkd 0 ⟨rfl, by simp only [hsn, List.append_assoc]; rfl, trivial⟩ rfl (by repeat (first | exact ag_refl | refine ag_upd rfl ?_ | refine ag_at rfl rfl ?_))⟩
    · have hi' : i = l.length := by have : ¬ i < l.length := by simpa using h
                                    omega
      subst hi'
      rw [List.take_length]
      repeat (first | refine gG ?_ | refine zN1 (fun hlen => ?_) | refine zN2 (fun hlen => ?_) | refine zAl (fun _ => ?_) | refine zBx (fun _ => ?_))
      first | refine zR ?_ | refine zQ ?_
      simp only [V.bytes, V.bytesAll_eq, List.append_assoc, List.cons_append, List.nil_append]; rfl
end Go.Proofs.Ythgackidonocpaa
namespace Go.Proofs.Ythgackidonocpaa
open Go.RowKit
inductive Pl where
  | fin (r : List Nat)
  | fork (p : List Nat) (i : Nat) (a : Pl) (j : Nat) (b : Pl)
def Pl.n : Pl → Nat
  | .fin r => r.length
  | .fork p _ a _ _ => a.n + 1 + p.length
section
variable (P : Program) (F : Frm) (md : Region.Mode) (ops : Array Oper) (N : Nat) (cls : Nat → Nat)
def plB : Pl → Array Bool → Bool
  | .fin r, listed => ordB md ops cls r listed
  | .fork p i a j b, listed => ordP md ops cls p listed && decide (Region.ready md ops (lst p listed) = [i, j]) && plB a ((lst p listed).setIfInBounds i true) && plB b ((lst p listed).setIfInBounds j true) && Nat.beq a.n b.n
def WT (Kf : (Nat → AV) → List Blk → Prop) : Pl → (Nat → AV) → List Blk → Prop
  | .fin r, τ, hp => WO P F ops N cls Kf r τ hp
  | .fork p i a j b, τ, hp => WO P F ops N cls (fun τ hp => WO P F ops N cls (WT Kf a) [i] τ hp ∧ WO P F ops N cls (WT Kf b) [j] τ hp) p τ hp
end
section
variable {P : Program} {F : Frm} {md : Region.Mode} {ops : Array Oper} {N : Nat} {cls : Nat → Nat} {Kf : (Nat → AV) → List Blk → Prop} {τ : Nat → AV} {hp : List Blk}
theorem wt_fin {r : List Nat} (h : WO P F ops N cls Kf r τ hp) : WT P F ops N cls Kf (.fin r) τ hp := h
theorem wt_fork {p : List Nat} {i j : Nat} {a b : Pl} (h : WO P F ops N cls (fun τ hp => WO P F ops N cls (WT P F ops N cls Kf a) [i] τ hp ∧ WO P F ops N cls (WT P F ops N cls Kf b) [j] τ hp) p τ hp) : WT P F ops N cls Kf (.fork p i a j b) τ hp := h
theorem anyA_pl : ∀ (t : Pl) (listed : Array Bool) (τ : Nat → AV) (hp : List Blk), ClosedL md ops listed → plB md ops cls t listed = true → WT P F ops N cls Kf t τ hp → AnyA P F md ops N cls Kf t.n listed τ hp
  | .fin r, listed, τ, hp, hc, hB, h => anyA_ord r listed τ hp hc hB h
  | .fork p i a j b, listed, τ, hp, hc, hB, h => by
    simp only [plB, Bool.and_eq_true] at hB
    obtain ⟨⟨⟨⟨b1, b2⟩, b3⟩, b4⟩, b5⟩ := hB
    have hcl := ordP_closed p _ hc b1
    have hr := of_decide_eq_true b2
    refine anyA_pre (a.n + 1) p listed τ hp hc b1 (WO.mono p (fun τ' hp' h' => ?_) h)
    refine ⟨fun h0 => (by rw [hr] at h0; cases h0), fun k hk => ?_⟩
    have hk' := hk
    rw [hr] at hk'
    simp only [List.mem_cons, List.not_mem_nil, or_false] at hk'
    rcases hk' with rfl | rfl
    · exact opA_mono (fun τ' hp' h' => anyA_pl a _ τ' hp' (hcl.set hk) b3 h') h'.1
    · rw [Nat.eq_of_beq_eq_true b5]; exact opA_mono (fun τ' hp' h' => anyA_pl b _ τ' hp' (hcl.set hk) b4 h') h'.2
end
section
variable {P : Program} {F : Frm} {τ : Nat → AV} {hp : List Blk} {N : Nat} {Q : Exit → AS → Prop} {id : Nat} {l : List Oper}
theorem ac_drawT (c : List Nat) (t : Pl) (hm : P.follows .mixedOrders = true) (hB : (plB .any l.toArray (clsOf c) t (Array.replicate l.toArray.size false) && Nat.beq t.n l.length) = true)
    (h : WT P F l.toArray N (clsOf c) (fun τ' hp' => Q .normal ⟨τ', hp', N⟩) t τ hp) : AC P F (.region id l.toArray true) Q ⟨τ, hp, N⟩ := by
  refine ⟨fun M a w hr => ?_⟩
  simp only [Bool.and_eq_true] at hB
  have hlen := Nat.eq_of_beq_eq_true hB.2
  have hrd : Rep F M ⟨τ, hp, N⟩ a { w with drawn := w.drawn + 1 } := ⟨hr.tmps, hr.size, hr.defers, hr.heap.drew⟩
  have hcl : ClosedL .any l.toArray (Array.replicate l.toArray.size false) := fun j oj _ hl => by rw [getD_replicate_false] at hl; cases hl
  refine wp_region_any hm ?_
  have H := wpAny_of_A (Q := fun e a' w' => ∃ M' σ', Q e σ' ∧ Rep F M' σ' a' w') (fun M τ hp a w hk hr => ⟨M, _, hk, hr⟩) _ _ _ _ _ _ _ hrd (anyA_pl t _ τ hp hcl hB.1 h)
  rwa [hlen, show l.length = l.toArray.size by simp] at H
end
def bfn (f : FuncId) (b off : Nat) : Value := .func (.func f) #[.pointer (some ⟨b, off, none⟩)] #[]
section
variable {P : Program} {F : Frm} {L : Tab} {d : Option Tmp} {ty : TypeId} {pos : String} {aft : Array Edge} {g : Option (Nat × Bool)} {ρ : Operand → AV} {hp : List Blk} {K : AV → List Blk → Prop}
theorem zMf {f : FuncId} {x : Operand} {i b off : Nat} (h : K (.own 0 (bfn f b off)) hp) (hx : ρ x = .ptr i b off := by exact rfl) : LO P F ⟨d, .makeFunc (.func f) #[x] #[], ty, pos, aft, g⟩ ρ hp K := by
  refine LO.same (fun M e w he hh => ?_) h
  have h1 := he x (by simp [Op.operands])
  rw [hx] at h1
  simp only [RA] at h1
  refine ⟨bfn f b off, by simp [execOp, Instr.makeFunc, h1, bfn], ?_⟩
  simp only [RA]
  exact ⟨trivial, rfl⟩
theorem run_callb {f : FuncId} (hf : Enters P f) {e : Operand → Value} {y : Operand} {p : Value} (hy : e y = .func (.func f) #[p] #[]) (xs : List Operand) (ats : Array TypeId) (w : World) :
    (execOp e ⟨d, .call { callee := .value y, args := xs.toArray, argTypes := ats }, ty, pos, aft, g⟩).run P w = .ok (.enter f (p :: xs.map e).toArray) w := by
  obtain ⟨fn, h1, h2, h3⟩ := hf
  simp [execOp, resolve, hy, Deferred.ofValue, invoke, callFunc, h1]
  rw [if_neg (by simpa using h2), if_neg (fun e => by rw [e] at h3; cases h3)]
theorem zCallGb {f : FuncId} {y : Operand} {xs : List Operand} {ats : Array TypeId} {asq : List AV} {hs : List Blk} {R : AV → List Blk → Prop} {j b off : Nat} (sel : List Nat) (hc : AG P f asq hs R)
    (h : ∀ r hs2, R r hs2 → ∃ r' hp', Re r r' ∧ Nat.ble sel.length hs2.length = true ∧ evl (putB hp sel hs2) = some hp' ∧ K r' hp') (hy : ρ y = .own j (bfn f b off) := by exact rfl)
    (hx : Res (.ptr 0 b off :: xs.map ρ) asq := by repeat (first | exact res_nil | apply res_cons | exact re_own | exact re_ptr | exact re_refl | apply re_cls | exact rzs_nil | apply rzs_cons | exact rz_c | exact rz_nil rfl | apply rz_agg | apply rz_fn | apply rz_tup)) (hsl : selB hp sel = some hs := by exact rfl) (hf : freshB sel = true := by exact rfl) :
    LO P F ⟨d, .call { callee := .value y, args := xs.toArray, argTypes := ats }, ty, pos, aft, g⟩ ρ hp K := by
  refine ⟨fun M e w he hh => ?_⟩
  obtain ⟨hE, hcall⟩ := hc
  have h1 := he y (by simp [Op.operands, Call.operands])
  rw [hy] at h1
  simp only [RA] at h1
  rw [run_callb hE h1.1]
  have hav : RAs M (.ptr 0 b off :: xs.map ρ) (.pointer (some ⟨b, off, none⟩) :: xs.map e) := by
    simp only [RAs]
    exact ⟨_, _, rfl, by simp only [RA], ev_all xs (fun x hx => he x (by simp [Op.operands, Call.operands, hx]))⟩
  refine (hcall (subF M hs w) M w _ (heap_sel hh hsl hf) (hx M _ hav)).mono ?_
  rintro e' w' ⟨v, r, hs2, M', rfl, hR, hM, hh2, hr⟩
  obtain ⟨r', hp', hre, hl, hev, hK⟩ := h r hs2 hR
  exact ⟨v, rfl, M', r', _, hK, hM.to (sub_may hh hsl), by rw [evl_eq hev]; exact heap_put hh hsl (Nat.le_of_ble_eq_true hl) hh2, hre M' v hr⟩
/-- parts of rows of bytes -/
theorem zPlb {t el : TypeId} {ti te : TI} {x y : Operand} {l : List UInt8} {k : IntKind} {z : Int} (m : Nat) (hm : m ≤ l.length) (hK : K (.c (bytRow (l.drop m))) hp) (hz : z = (m : Int) := by exact rfl) (hL : TabOk P L := by exact tok) (hx : ρ x = .c (bytRow l) := by exact rfl) (hy : ρ y = .c (.lit (.int k z)) := by exact rfl) (ht : L.look t = some ti := by exact rfl) (hd : ti.d = .slice el := by exact rfl) (hte : L.look el = some te := by exact rfl) (hsz : te.size = 1 := by exact rfl) :
    LO P F ⟨d, .slice t x (some y) none none, ty, pos, aft, g⟩ ρ hp K := by
  refine lo_part_lo hL m hm hx hy hz ht hd hte hsz ?_
  have h : (byts l).drop (m * 1) = byts (l.drop m) := by simp [byts, List.map_drop]
  rw [h]
  have h3 : (byts (l.drop m)).take (l.length - m) = byts (l.drop m) := List.take_of_length_le (by simp [byts_len])
  simpa [bytRow, h3] using hK
theorem zPhb {t el : TypeId} {ti te : TI} {x y : Operand} {l : List UInt8} {k : IntKind} {z : Int} (m : Nat) (hm : m ≤ l.length) (hK : K (.c (bytRow (l.take m))) hp) (hz : z = (m : Int) := by exact rfl) (hL : TabOk P L := by exact tok) (hx : ρ x = .c (bytRow l) := by exact rfl) (hy : ρ y = .c (.lit (.int k z)) := by exact rfl) (ht : L.look t = some ti := by exact rfl) (hd : ti.d = .slice el := by exact rfl) (hte : L.look el = some te := by exact rfl) (hsz : te.size = 1 := by exact rfl) :
    LO P F ⟨d, .slice t x none (some y) none, ty, pos, aft, g⟩ ρ hp K := by
  refine lo_part_hi hL m hm hx hy hz ht hd hte hsz ?_
  have h : (byts l).take (m * 1) = byts (l.take m) := by simp [byts, List.map_take]
  rw [h]
  have h2 : (l.take m).length = m := by simp; omega
  simpa [bytRow, h2, Nat.min_eq_left hm] using hK
end
theorem AG.re {P : Program} {f : FuncId} {asq : List AV} {hs : List Blk} {R R' : AV → List Blk → Prop} (h : AG P f asq hs R) (hi : ∀ r hs, R r hs → ∃ r', Re r r' ∧ R' r' hs) : AG P f asq hs R' :=
  ⟨h.1, fun F M w vs hM hv => (h.2 F M w vs hM hv).mono fun _ _ ⟨v, r, hs', M', h1, h2, h3, h4, h5⟩ => let ⟨r', h6, h7⟩ := hi r hs' h2; ⟨v, r', hs', M', h1, h7, h3, h4, h6 M' v h5⟩⟩
end Go.Proofs.Ythgackidonocpaa
namespace Go.Proofs.Ythgackidonocpaa
open Go.RowKit
def rdB (b : Nat) (s : RS) : Blk := .box b 266 [.c (bytRow s.l), .c (.lit (.bool s.bad)), .c (.lit (.int .i64 (s.dep : Int)))]
/-- what a function of the reader gives -/
def Gives (b : Nat) (t : T) (s : RS) (r : AV) (hs : List Blk) : Prop := r = .c t ∧ hs = [rdB b s]
set_option maxRecDepth 100000 in
set_option maxHeartbeats 2000000 in
theorem byte_ag (b : Nat) (s : RS) : AG Try.prog 161 [.ptr 0 b 0] [rdB b s] (Gives b (.lit (.int .i64 ((rByte s).1 : Int))) (rByte s).2) := by
  obtain ⟨l, bad, d⟩ := s
  refine ag_enter 1 tok Try.func161 Try.ntmps161 Try.results161 rfl (by kernel_rfl) rfl fun F => ?_
  cases l with
  | nil =>
    repeat (first | refine gG ?_ | refine zN1 (fun hlen => ?_) | refine zN2 (fun hlen => ?_))
    refine zG ?_
    exact ⟨rfl, rfl⟩
  | cons a r =>
    have d1 : decide ((((a :: r).length : Nat) : Int) = 0) = false := by simp; omega
    have hw : IntKind.i64.wrap (a.toNat : Int) = (a.toNat : Int) := by rw [IntWalk.i64_in _ (by have := a.toNat_lt; omega)]
    repeat (first | refine gG ?_ | refine zN1 (fun hlen => ?_) | refine zN2 (fun hlen => ?_))
    refine zIx 0 (show 0 < (a :: r).length by simp) ?_
    repeat (first | refine gG ?_ | refine zN1 (fun hlen => ?_) | refine zN2 (fun hlen => ?_))
    refine zPlb (l := a :: r) 1 (by simp) ?_
    repeat (first | refine gG ?_ | refine zN1 (fun hlen => ?_) | refine zN2 (fun hlen => ?_))
    refine lo_conv tok rfl rfl rfl rfl hw ?_
    repeat (first | refine gG ?_ | refine zN1 (fun hlen => ?_) | refine zN2 (fun hlen => ?_))
    refine zG ?_
    exact ⟨rfl, rfl⟩
theorem and127 : ∀ x : Nat, x < 256 → x &&& 127 = x % 128 := by decide +kernel
theorem p128 (i : Nat) : 2 ^ (7 * i) = 128 ^ i := by rw [Nat.pow_mul]
theorem shl_i {c i : Nat} (hi : i ≤ 9) (hc : c * 128 ^ i < 2 ^ 64) : IntKind.u64.wrap ((c : Int) * 2 ^ (min ((((7 * i : Nat) : Nat) : Int)).toNat IntKind.u64.bits)) = ((c * 128 ^ i : Nat) : Int) := by
  have h1 : min ((((7 * i : Nat) : Nat) : Int)).toNat IntKind.u64.bits = 7 * i := by
    have : IntKind.u64.bits = 64 := rfl
    rw [this]
    omega
  rw [h1, wrap_u64]
  have h2 : (c : Int) * 2 ^ (7 * i) = ((c * 128 ^ i : Nat) : Int) := by
    rw [← p128]
    simp
  rw [h2]
  omega
theorem or_i {u c i : Nat} (hu : u < 128 ^ i) (hc : c * 128 ^ i < 2 ^ 64) (hu' : u < 2 ^ 64) (hs : u + c * 128 ^ i < 2 ^ 64) : IntKind.u64.wrap ((((u : Int) % 2 ^ IntKind.u64.bits).toNat ||| (((c * 128 ^ i : Nat) : Int) % 2 ^ IntKind.u64.bits).toNat : Nat) : Int) = ((u + c * 128 ^ i : Nat) : Int) := by
  have e : (2 : Int) ^ IntKind.u64.bits = 18446744073709551616 := rfl
  have h1 : ((u : Int) % 2 ^ IntKind.u64.bits).toNat = u := by rw [e]; omega
  have h2 : (((c * 128 ^ i : Nat) : Int) % 2 ^ IntKind.u64.bits).toNat = c * 128 ^ i := by rw [e]; omega
  rw [h1, h2]
  have h3 : u ||| c * 128 ^ i = u + c * 128 ^ i := by
    rw [← p128] at hu ⊢
    rw [← Nat.shiftLeft_eq, Nat.or_comm, ← Nat.shiftLeft_add_eq_or_of_lt hu, Nat.add_comm]
  rw [h3, wrap_u64]
  omega
theorem and_i {c : Nat} (hc : c < 256) (h : 128 ≤ c) : IntKind.u64.wrap ((((c : Int) % 2 ^ IntKind.u64.bits).toNat &&& ((127 : Int) % 2 ^ IntKind.u64.bits).toNat : Nat) : Int) = ((c - 128 : Nat) : Int) := by
  have e : (2 : Int) ^ IntKind.u64.bits = 18446744073709551616 := rfl
  have h1 : ((c : Int) % 2 ^ IntKind.u64.bits).toNat = c := by rw [e]; omega
  have h2 : ((127 : Int) % 2 ^ IntKind.u64.bits).toNat = 127 := by rw [e]; rfl
  rw [h1, h2, and127 c hc, wrap_u64]
  omega
theorem rByte_lt (s : RS) : (rByte s).1 < 256 := by
  obtain ⟨l, b, d⟩ := s
  cases l with
  | nil => simp [rByte]
  | cons a r => exact a.toNat_lt
theorem pow_i {i : Nat} (h : i ≤ 8) : 128 ^ (i + 1) ≤ 2 ^ 63 := by
  have : 128 ^ (i + 1) ≤ 128 ^ 9 := Nat.pow_le_pow_right (by omega) (by omega)
  have e : 128 ^ 9 = 2 ^ 63 := rfl
  omega
theorem fin_lt {c i : Nat} (hi : i ≤ 9) (hc : c < 128) (h9 : i = 9 → c ≤ 1) : c * 128 ^ i < 2 ^ 64 := by
  by_cases h : i = 9
  · subst h
    have := h9 rfl
    have e : 128 ^ 9 = 2 ^ 63 := rfl
    rw [e]; omega
  · have h1 := pow_i (i := i) (by omega)
    rw [Nat.pow_succ] at h1
    have : c * 128 ^ i ≤ 128 * 128 ^ i := Nat.mul_le_mul_right _ (by omega)
    omega
theorem mid_lt {c u i : Nat} (hi : i ≤ 8) (hu : u < 128 ^ i) (hc : c < 128) : c * 128 ^ i < 2 ^ 64 ∧ u < 2 ^ 64 ∧ u + c * 128 ^ i < 2 ^ 64 ∧ u + c * 128 ^ i < 128 ^ (i + 1) := by
  have h1 := pow_i hi
  rw [Nat.pow_succ] at h1 ⊢
  have : c * 128 ^ i ≤ 127 * 128 ^ i := Nat.mul_le_mul_right _ (by omega)
  omega
theorem end_lt {c u i : Nat} (hi : i ≤ 9) (hu : u < 128 ^ i) (hc : c * 128 ^ i < 2 ^ 64) : u < 2 ^ 64 ∧ u + c * 128 ^ i < 2 ^ 64 := by
  have h1 : 128 ^ i ≤ 128 ^ 9 := Nat.pow_le_pow_right (by omega) hi
  have e : 128 ^ 9 = 2 ^ 63 := rfl
  refine ⟨by omega, ?_⟩
  have h2 : (2 : Nat) ^ 64 = 2 ^ (64 - 7 * i) * 128 ^ i := by rw [← p128, ← Nat.pow_add, show 64 - 7 * i + 7 * i = 64 by omega]
  rw [h2] at hc ⊢
  have h3 : c < 2 ^ (64 - 7 * i) := Nat.lt_of_mul_lt_mul_right hc
  calc u + c * 128 ^ i < 128 ^ i + c * 128 ^ i := by omega
    _ = (c + 1) * 128 ^ i := by rw [Nat.add_mul]; omega
    _ ≤ _ := Nat.mul_le_mul_right _ h3
set_option maxRecDepth 100000 in
set_option maxHeartbeats 4000000 in
theorem unsR_ag (b : Nat) (s : RS) : AG Try.prog 207 [.ptr 0 b 0] [rdB b s] (Gives b (.lit (.int .u64 ((rU s).1 : Int))) (rU s).2) := by
  refine ag_enter 1 tok Try.func207 Try.ntmps207 Try.results207 rfl (by kernel_rfl) rfl fun F => ?_
  repeat (first | refine gG ?_)
  refine x_loop [2, 3, 4, 5, 6, 7, 8, 9, 10, 11, 12, 13, 14, 15, 16, 17, 18, 19, 20, 21, 22, 23, 24, 25, 26, 27, 28, 29, 30, 31, 32, 33, 34, 35, 36, 37, 38, 39, 40, 41, 42, 43, 44, 45, 46, 47, 48, 49, 50] (fun y : Nat × Nat × RS => [(4, .c (.lit (.int .i64 ((7 * y.1 : Nat) : Int)))), (3, .c (.lit (.int .u64 (y.2.1 : Int))))]) (fun y => [rdB b y.2.2])
    (fun y => y.1 ≤ 10 ∧ y.2.1 < 128 ^ y.1 ∧ rUns (10 - y.1) y.1 y.2.1 y.2.2 = rU s) (fun y => 10 - y.1) (0, 0, s) ⟨by simp, by simp, rfl⟩ ⟨rfl, rfl, trivial⟩ rfl ?_
  rintro ⟨i, u, s'⟩ ⟨hi, hu, hinv⟩
  dsimp only at hi hu hinv ⊢
  repeat (first | refine gG ?_)
  refine x_cond rfl (fun h => ?_) (fun h => ?_)
  · have hi9 : i ≤ 9 := by have : ((7 * i : Nat) : Int) < 64 := of_decide_eq_true h
                           omega
    rw [show 10 - i = (9 - i) + 1 by omega, rUns] at hinv
    have hc := byte_ag b s'
    have hlt := rByte_lt s'
    generalize hcb : rByte s' = p at *
    obtain ⟨c, s1⟩ := p
    dsimp only at hinv hc hlt
    have q2 : decide (((7 * i : Nat) : Int) = 63) = decide (i = 9) := by
      by_cases h : i = 9
      · subst h; rfl
      · rw [decide_eq_false h, decide_eq_false (by omega)]
    have q3 : decide ((1 : Int) < (c : Int)) = decide (1 < c) := by
      by_cases h : 1 < c
      · rw [decide_eq_true h, decide_eq_true (by omega)]
      · rw [decide_eq_false h, decide_eq_false (by omega)]
    have q4 : decide ((0 : Int) < ((7 * i : Nat) : Int)) = decide (0 < i) := by
      by_cases h : 0 < i
      · rw [decide_eq_true h, decide_eq_true (by omega)]
      · rw [decide_eq_false h, decide_eq_false (by omega)]
    have q5 : decide ((c : Int) = 0) = decide (c = 0) := by
      by_cases h : c = 0
      · subst h; rfl
      · rw [decide_eq_false h, decide_eq_false (by omega)]
    repeat (first | refine gG ?_)
    refine zCallG [0] hc ?_
    rintro _ _ ⟨rfl, rfl⟩
    refine ⟨_, _, re_refl, rfl, rfl, ?_⟩
    repeat (first | refine gG ?_)
    refine lo_conv tok rfl rfl rfl rfl (r := (c : Int)) (by rw [wrap_u64]; omega) ?_
    obtain ⟨l1, bad1, dp1⟩ := s1
    dsimp only at hinv
    cases bad1
    rotate_left
    · rw [if_pos (by simp)] at hinv
      repeat (first | refine gG ?_)
      refine zG ?_
      rw [← hinv]
      exact ⟨rfl, rfl⟩
    cases b2 : decide (i = 9)
    · have e2 := q2.trans b2
      cases b4 : decide (0 < i)
      · have e4 := q4.trans b4
        rw [if_neg (by simp [b2, b4])] at hinv
        have hcc : c * 128 ^ i < 2 ^ 64 ∨ 128 ≤ c := by
          by_cases h128 : c < 128
          · left; exact fin_lt hi9 h128 (by simp only [decide_eq_true_eq, decide_eq_false_iff_not] at b2 b4; omega)
          · right; omega
        cases d6 : decide ((c : Int) < 128)
        · have h6 : ¬ c < 128 := by have := of_decide_eq_false d6; omega
          have hi8 : i ≤ 8 := by
            simp only [decide_eq_true_eq, decide_eq_false_iff_not] at b2 b4
            omega
          obtain ⟨k1, k2, k3⟩ := mid_lt hi8 hu (show c - 128 < 128 by omega)
          rw [if_neg h6] at hinv
          repeat (first | refine gG ?_)
          refine lo_and rfl rfl (and_i hlt (by omega)) ?_
          repeat (first | refine gG ?_)
          refine lo_shl rfl rfl (by omega) (shl_i hi9 k1) ?_
          repeat (first | refine gG ?_)
          refine lo_or rfl rfl (or_i hu k1 k2 k3.1) ?_
          repeat (first | refine gG ?_)
          refine lo_add rfl rfl (r := ((7 * (i + 1) : Nat) : Int)) (by rw [IntWalk.i64_in _ (by omega)]; omega) ?_
          repeat (first | refine gG ?_)
          exact ⟨(i + 1, u + (c - 128) * 128 ^ i, ⟨l1, false, dp1⟩), ⟨by simp only; omega, k3.2, by simp only; rw [show 10 - (i + 1) = 9 - i by omega]; exact hinv⟩, by simp only; omega, x_wkd 1 ⟨rfl, rfl, trivial⟩ rfl (by repeat (first | exact ag_refl | refine ag_upd rfl ?_ | refine ag_at rfl rfl ?_))⟩
        · have h6 : c < 128 := by have := of_decide_eq_true d6; omega
          have hc2 : c * 128 ^ i < 2 ^ 64 := by rcases hcc with h | h; exact h; omega
          obtain ⟨k2, k3⟩ := end_lt hi9 hu hc2
          rw [if_pos h6] at hinv
          repeat (first | refine gG ?_)
          refine lo_shl rfl rfl (by omega) (shl_i hi9 hc2) ?_
          repeat (first | refine gG ?_)
          refine lo_or rfl rfl (or_i hu hc2 k2 k3) ?_
          repeat (first | refine gG ?_)
          refine zG ?_
          rw [← hinv]
          exact ⟨rfl, rfl⟩
      · have e4 := q4.trans b4
        cases b5 : decide (c = 0)
        · have e5 := q5.trans b5
          rw [if_neg (by simp [b2, b4, b5])] at hinv
          have hcc : c * 128 ^ i < 2 ^ 64 ∨ 128 ≤ c := by
            by_cases h128 : c < 128
            · left; exact fin_lt hi9 h128 (by simp only [decide_eq_true_eq, decide_eq_false_iff_not] at b2 b4 b5; omega)
            · right; omega
          cases d6 : decide ((c : Int) < 128)
          · have h6 : ¬ c < 128 := by have := of_decide_eq_false d6; omega
            have hi8 : i ≤ 8 := by
              simp only [decide_eq_true_eq, decide_eq_false_iff_not] at b2 b4 b5
              omega
            obtain ⟨k1, k2, k3⟩ := mid_lt hi8 hu (show c - 128 < 128 by omega)
            rw [if_neg h6] at hinv
            repeat (first | refine gG ?_)
            refine lo_and rfl rfl (and_i hlt (by omega)) ?_
            repeat (first | refine gG ?_)
            refine lo_shl rfl rfl (by omega) (shl_i hi9 k1) ?_
            repeat (first | refine gG ?_)
            refine lo_or rfl rfl (or_i hu k1 k2 k3.1) ?_
            repeat (first | refine gG ?_)
            refine lo_add rfl rfl (r := ((7 * (i + 1) : Nat) : Int)) (by rw [IntWalk.i64_in _ (by omega)]; omega) ?_
            repeat (first | refine gG ?_)
            exact ⟨(i + 1, u + (c - 128) * 128 ^ i, ⟨l1, false, dp1⟩), ⟨by simp only; omega, k3.2, by simp only; rw [show 10 - (i + 1) = 9 - i by omega]; exact hinv⟩, by simp only; omega, x_wkd 1 ⟨rfl, rfl, trivial⟩ rfl (by repeat (first | exact ag_refl | refine ag_upd rfl ?_ | refine ag_at rfl rfl ?_))⟩
          · have h6 : c < 128 := by have := of_decide_eq_true d6; omega
            have hc2 : c * 128 ^ i < 2 ^ 64 := by rcases hcc with h | h; exact h; omega
            obtain ⟨k2, k3⟩ := end_lt hi9 hu hc2
            rw [if_pos h6] at hinv
            repeat (first | refine gG ?_)
            refine lo_shl rfl rfl (by omega) (shl_i hi9 hc2) ?_
            repeat (first | refine gG ?_)
            refine lo_or rfl rfl (or_i hu hc2 k2 k3) ?_
            repeat (first | refine gG ?_)
            refine zG ?_
            rw [← hinv]
            exact ⟨rfl, rfl⟩
        · have e5 := q5.trans b5
          rw [if_pos (by simp [b2, b4, b5])] at hinv
          repeat (first | refine gG ?_)
          refine zG ?_
          rw [← hinv]
          exact ⟨rfl, rfl⟩
    · have e2 := q2.trans b2
      cases b3 : decide (1 < c)
      · have e3 := q3.trans b3
        cases b4 : decide (0 < i)
        · have e4 := q4.trans b4
          rw [if_neg (by simp [b2, b3, b4])] at hinv
          have hcc : c * 128 ^ i < 2 ^ 64 ∨ 128 ≤ c := by
            by_cases h128 : c < 128
            · left; exact fin_lt hi9 h128 (by simp only [decide_eq_true_eq, decide_eq_false_iff_not] at b2 b3 b4; omega)
            · right; omega
          cases d6 : decide ((c : Int) < 128)
          · have h6 : ¬ c < 128 := by have := of_decide_eq_false d6; omega
            have hi8 : i ≤ 8 := by
              simp only [decide_eq_true_eq, decide_eq_false_iff_not] at b2 b3 b4
              omega
            obtain ⟨k1, k2, k3⟩ := mid_lt hi8 hu (show c - 128 < 128 by omega)
            rw [if_neg h6] at hinv
            repeat (first | refine gG ?_)
            refine lo_and rfl rfl (and_i hlt (by omega)) ?_
            repeat (first | refine gG ?_)
            refine lo_shl rfl rfl (by omega) (shl_i hi9 k1) ?_
            repeat (first | refine gG ?_)
            refine lo_or rfl rfl (or_i hu k1 k2 k3.1) ?_
            repeat (first | refine gG ?_)
            refine lo_add rfl rfl (r := ((7 * (i + 1) : Nat) : Int)) (by rw [IntWalk.i64_in _ (by omega)]; omega) ?_
            repeat (first | refine gG ?_)
            exact ⟨(i + 1, u + (c - 128) * 128 ^ i, ⟨l1, false, dp1⟩), ⟨by simp only; omega, k3.2, by simp only; rw [show 10 - (i + 1) = 9 - i by omega]; exact hinv⟩, by simp only; omega, x_wkd 1 ⟨rfl, rfl, trivial⟩ rfl (by repeat (first | exact ag_refl | refine ag_upd rfl ?_ | refine ag_at rfl rfl ?_))⟩
          · have h6 : c < 128 := by have := of_decide_eq_true d6; omega
            have hc2 : c * 128 ^ i < 2 ^ 64 := by rcases hcc with h | h; exact h; omega
            obtain ⟨k2, k3⟩ := end_lt hi9 hu hc2
            rw [if_pos h6] at hinv
            repeat (first | refine gG ?_)
            refine lo_shl rfl rfl (by omega) (shl_i hi9 hc2) ?_
            repeat (first | refine gG ?_)
            refine lo_or rfl rfl (or_i hu hc2 k2 k3) ?_
            repeat (first | refine gG ?_)
            refine zG ?_
            rw [← hinv]
            exact ⟨rfl, rfl⟩
        · have e4 := q4.trans b4
          cases b5 : decide (c = 0)
          · have e5 := q5.trans b5
            rw [if_neg (by simp [b2, b3, b4, b5])] at hinv
            have hcc : c * 128 ^ i < 2 ^ 64 ∨ 128 ≤ c := by
              by_cases h128 : c < 128
              · left; exact fin_lt hi9 h128 (by simp only [decide_eq_true_eq, decide_eq_false_iff_not] at b2 b3 b4 b5; omega)
              · right; omega
            cases d6 : decide ((c : Int) < 128)
            · have h6 : ¬ c < 128 := by have := of_decide_eq_false d6; omega
              have hi8 : i ≤ 8 := by
                simp only [decide_eq_true_eq, decide_eq_false_iff_not] at b2 b3 b4 b5
                omega
              obtain ⟨k1, k2, k3⟩ := mid_lt hi8 hu (show c - 128 < 128 by omega)
              rw [if_neg h6] at hinv
              repeat (first | refine gG ?_)
              refine lo_and rfl rfl (and_i hlt (by omega)) ?_
              repeat (first | refine gG ?_)
              refine lo_shl rfl rfl (by omega) (shl_i hi9 k1) ?_
              repeat (first | refine gG ?_)
              refine lo_or rfl rfl (or_i hu k1 k2 k3.1) ?_
              repeat (first | refine gG ?_)
              refine lo_add rfl rfl (r := ((7 * (i + 1) : Nat) : Int)) (by rw [IntWalk.i64_in _ (by omega)]; omega) ?_
              repeat (first | refine gG ?_)
              exact ⟨(i + 1, u + (c - 128) * 128 ^ i, ⟨l1, false, dp1⟩), ⟨by simp only; omega, k3.2, by simp only; rw [show 10 - (i + 1) = 9 - i by omega]; exact hinv⟩, by simp only; omega, x_wkd 1 ⟨rfl, rfl, trivial⟩ rfl (by repeat (first | exact ag_refl | refine ag_upd rfl ?_ | refine ag_at rfl rfl ?_))⟩
            · have h6 : c < 128 := by have := of_decide_eq_true d6; omega
              have hc2 : c * 128 ^ i < 2 ^ 64 := by rcases hcc with h | h; exact h; omega
              obtain ⟨k2, k3⟩ := end_lt hi9 hu hc2
              rw [if_pos h6] at hinv
              repeat (first | refine gG ?_)
              refine lo_shl rfl rfl (by omega) (shl_i hi9 hc2) ?_
              repeat (first | refine gG ?_)
              refine lo_or rfl rfl (or_i hu hc2 k2 k3) ?_
              repeat (first | refine gG ?_)
              refine zG ?_
              rw [← hinv]
              exact ⟨rfl, rfl⟩
          · have e5 := q5.trans b5
            rw [if_pos (by simp [b2, b3, b4, b5])] at hinv
            repeat (first | refine gG ?_)
            refine zG ?_
            rw [← hinv]
            exact ⟨rfl, rfl⟩
      · have e3 := q3.trans b3
        rw [if_pos (by simp [b2, b3])] at hinv
        repeat (first | refine gG ?_)
        refine zG ?_
        rw [← hinv]
        exact ⟨rfl, rfl⟩
  · have hi10 : i = 10 := by have : ¬ ((7 * i : Nat) : Int) < 64 := of_decide_eq_false h
                             omega
    subst hi10
    repeat (first | refine gG ?_)
    refine zG ?_
    rw [← hinv]
    exact ⟨rfl, rfl⟩
set_option maxRecDepth 100000 in
set_option maxHeartbeats 2000000 in
theorem natR_ag (b : Nat) (s : RS) : AG Try.prog 166 [.ptr 0 b 0] [rdB b s] (Gives b (.lit (.int .i64 ((rNat s).1 : Int))) (rNat s).2) := by
  have hc := unsR_ag b s
  unfold rNat
  generalize rU s = p at *
  obtain ⟨u, l, bad, d⟩ := p
  dsimp only at hc ⊢
  refine ag_enter 1 tok Try.func166 Try.ntmps166 Try.results166 rfl (by kernel_rfl) rfl fun F => ?_
  repeat (first | refine gG ?_)
  refine zCallG [0] hc ?_
  rintro _ _ ⟨rfl, rfl⟩
  refine ⟨_, _, re_refl, rfl, rfl, ?_⟩
  cases d1 : decide ((9223372036854775807 : Int) < (u : Int))
  · have h1 : ¬ 9223372036854775807 < u := by have := of_decide_eq_false d1; omega
    rw [if_neg h1]
    repeat (first | refine gG ?_)
    refine lo_conv tok rfl rfl rfl rfl (r := (u : Int)) (by rw [IntWalk.i64_in _ (by omega)]) ?_
    repeat (first | refine gG ?_)
    refine zG ?_
    exact ⟨rfl, rfl⟩
  · have h1 : 9223372036854775807 < u := by have := of_decide_eq_true d1; omega
    rw [if_pos h1]
    repeat (first | refine gG ?_)
    refine zG ?_
    exact ⟨rfl, rfl⟩
theorem rU_lt (s : RS) : (rU s).1 < 2 ^ 64 := by
  cases hb : (rU s).2.bad with
  | false => exact (rU_ok (s := s) (s' := (rU s).2) (x := (rU s).1) rfl hb).2
  | true =>
    have : (rU s).1 = 0 := by
      have key : ∀ (k i u : Nat) (s : RS), (rUns k i u s).2.bad = true → (rUns k i u s).1 = 0 := by
        intro k
        induction k with
        | zero => intro i u s _; rfl
        | succ k ih =>
          intro i u s h
          rw [rUns] at h ⊢
          split
          · rfl
          · rename_i hc
            rw [if_neg hc] at h
            simp only [Bool.or_eq_true, not_or, Bool.not_eq_true] at hc
            split
            · rename_i h2
              rw [if_pos h2] at h
              dsimp only at h
              rw [hc.1.1] at h; cases h
            · rename_i h2
              rw [if_neg h2] at h
              exact ih _ _ _ h
      exact key 10 0 0 s hb
    omega
theorem and1 {u : Nat} (hu : u < 2 ^ 64) : IntKind.u64.wrap ((((u : Int) % 2 ^ IntKind.u64.bits).toNat &&& ((1 : Int) % 2 ^ IntKind.u64.bits).toNat : Nat) : Int) = ((u % 2 : Nat) : Int) := by
  have e : (2 : Int) ^ IntKind.u64.bits = 18446744073709551616 := rfl
  have h1 : ((u : Int) % 2 ^ IntKind.u64.bits).toNat = u := by rw [e]; omega
  have h2 : ((1 : Int) % 2 ^ IntKind.u64.bits).toNat = 1 := by rw [e]; rfl
  rw [h1, h2, Nat.and_one_is_mod, wrap_u64]
  omega
theorem wrap_i64 (a : Int) : IntKind.i64.wrap a = if a % 18446744073709551616 < 9223372036854775808 then a % 18446744073709551616 else a % 18446744073709551616 - 18446744073709551616 := by
  simp [IntKind.wrap, IntKind.bits, IntKind.signed]
  split <;> split <;> omega
theorem xor_dz {u : Nat} (hu : u < 2 ^ 64) : IntKind.i64.wrap (((((u / 2 : Nat) : Int) % 2 ^ IntKind.i64.bits).toNat ^^^ ((-((u % 2 : Nat) : Int)) % 2 ^ IntKind.i64.bits).toNat : Nat) : Int) = dz u := by
  have e : (2 : Int) ^ IntKind.i64.bits = 18446744073709551616 := rfl
  have h1 : (((u / 2 : Nat) : Int) % 2 ^ IntKind.i64.bits).toNat = u / 2 := by rw [e]; omega
  rw [h1, e]
  unfold dz
  by_cases h : u % 2 = 0
  · rw [if_pos h, h]
    have h2 : ((-((0 : Nat) : Int)) % 18446744073709551616).toNat = 0 := rfl
    rw [h2, Nat.xor_zero, wrap_i64, if_pos (by omega)]
    omega
  · rw [if_neg h, show u % 2 = 1 by omega]
    have h2 : ((-((1 : Nat) : Int)) % 18446744073709551616).toNat = 2 ^ 64 - 1 := rfl
    rw [h2, xor_ones (by omega), wrap_i64, if_neg (by omega)]
    omega
set_option maxRecDepth 100000 in
set_option maxHeartbeats 2000000 in
theorem intR_ag (b : Nat) (s : RS) : AG Try.prog 162 [.ptr 0 b 0] [rdB b s] (Gives b (.lit (.int .i64 (rInt s).1)) (rInt s).2) := by
  have hc := unsR_ag b s
  have hlt := rU_lt s
  unfold rInt
  generalize rU s = p at *
  obtain ⟨u, l, bad, d⟩ := p
  dsimp only at hc hlt ⊢
  refine ag_enter 1 tok Try.func162 Try.ntmps162 Try.results162 rfl (by kernel_rfl) rfl fun F => ?_
  repeat (first | refine gG ?_)
  refine zCallG [0] hc ?_
  rintro _ _ ⟨rfl, rfl⟩
  refine ⟨_, _, re_refl, rfl, rfl, ?_⟩
  repeat (first | refine gG ?_)
  refine lo_shr rfl rfl (by omega) (r := ((u / 2 : Nat) : Int)) (by
    have : (2 : Int) ^ (min (1 : Int).toNat IntKind.u64.bits) = 2 := rfl
    rw [this, Int.fdiv_eq_ediv_of_nonneg _ (by omega)]; omega) ?_
  repeat (first | refine gG ?_)
  refine lo_conv tok rfl rfl rfl rfl (r := ((u / 2 : Nat) : Int)) (by rw [IntWalk.i64_in _ (by omega)]) ?_
  repeat (first | refine gG ?_)
  refine lo_and rfl rfl (and1 hlt) ?_
  repeat (first | refine gG ?_)
  refine lo_conv tok rfl rfl rfl rfl (r := ((u % 2 : Nat) : Int)) (by rw [IntWalk.i64_in _ (by omega)]) ?_
  repeat (first | refine gG ?_)
  refine lo_neg rfl (r := -((u % 2 : Nat) : Int)) (by rw [IntWalk.i64_in _ (by omega)]; omega) ?_
  repeat (first | refine gG ?_)
  refine lo_xor rfl rfl (xor_dz hlt) ?_
  repeat (first | refine gG ?_)
  refine zG ?_
  exact ⟨rfl, rfl⟩
set_option maxRecDepth 100000 in
set_option maxHeartbeats 2000000 in
theorem countR_ag (b : Nat) (s : RS) : AG Try.prog 208 [.ptr 0 b 0] [rdB b s] (Gives b (.lit (.int .i64 ((rCount s).1 : Int))) (rCount s).2) := by
  have hc := natR_ag b s
  unfold rCount
  generalize rNat s = p at *
  obtain ⟨u, l, bad, d⟩ := p
  dsimp only at hc ⊢
  refine ag_enter 1 tok Try.func208 Try.ntmps208 Try.results208 rfl (by kernel_rfl) rfl fun F => ?_
  repeat (first | refine gG ?_ | refine zN1 (fun hlen => ?_) | refine zN2 (fun hlen => ?_))
  refine zCallG [0] hc ?_
  rintro _ _ ⟨rfl, rfl⟩
  refine ⟨_, _, re_refl, rfl, rfl, ?_⟩
  cases d1 : decide ((l.length : Int) < (u : Int))
  · have h1 : ¬ l.length < u := by have := of_decide_eq_false d1; omega
    rw [if_neg h1]
    repeat (first | refine gG ?_ | refine zN1 (fun hlen => ?_) | refine zN2 (fun hlen => ?_))
    refine zG ?_
    exact ⟨rfl, rfl⟩
  · have h1 : l.length < u := by have := of_decide_eq_true d1; omega
    rw [if_pos h1]
    repeat (first | refine gG ?_ | refine zN1 (fun hlen => ?_) | refine zN2 (fun hlen => ?_))
    refine zG ?_
    exact ⟨rfl, rfl⟩
set_option maxRecDepth 100000 in
set_option maxHeartbeats 2000000 in
theorem textR_ag (b : Nat) (s : RS) : AG Try.prog 163 [.ptr 0 b 0] [rdB b s] (Gives b (.lit (.string (bs (rText s).1))) (rText s).2) := by
  have hc := countR_ag b s
  have hle := rCount_le s
  unfold rText
  generalize rCount s = p at *
  obtain ⟨u, l, bad, d⟩ := p
  dsimp only at hc hle ⊢
  refine ag_enter 1 tok Try.func163 Try.ntmps163 Try.results163 rfl (by kernel_rfl) rfl fun F => ?_
  repeat (first | refine gG ?_)
  refine zCallG [0] hc ?_
  rintro _ _ ⟨rfl, rfl⟩
  refine ⟨_, _, re_refl, rfl, rfl, ?_⟩
  repeat (first | refine gG ?_)
  refine zPhb u hle ?_
  repeat (first | refine gG ?_)
  refine zStr (l.take u) rfl rfl ?_
  repeat (first | refine gG ?_)
  refine zPlb u hle ?_
  repeat (first | refine gG ?_)
  refine zG ?_
  exact ⟨rfl, rfl⟩
set_option maxRecDepth 100000 in
set_option maxHeartbeats 2000000 in
theorem doneR_ag (b : Nat) (s : RS) : AG Try.prog 160 [.ptr 0 b 0] [rdB b s] (Gives b (.lit (.bool (!s.bad && decide (s.l = [])))) s) := by
  obtain ⟨l, bad, d⟩ := s
  refine ag_enter 1 tok Try.func160 Try.ntmps160 Try.results160 rfl (by kernel_rfl) rfl fun F => ?_
  have hd : decide ((l.length : Int) = 0) = decide (l = []) := by
    cases l with
    | nil => rfl
    | cons a r => simp; omega
  cases bad
  · repeat (first | refine gG ?_ | refine zN1 (fun hlen => ?_) | refine zN2 (fun hlen => ?_))
    refine zG ?_
    exact ⟨by simp only [outA, hd]; rfl, rfl⟩
  · repeat (first | refine gG ?_ | refine zN1 (fun hlen => ?_) | refine zN2 (fun hlen => ?_))
    refine zG ?_
    exact ⟨rfl, rfl⟩
end Go.Proofs.Ythgackidonocpaa
namespace Go.Proofs.Ythgackidonocpaa
open Go.RowKit
def tkB (b : Nat) (s : TS) : Blk := .box b 150 [.c (bytRow s.l), .c (.lit (.bool s.ok))]
def Takes (b : Nat) (t : T) (s : TS) (r : AV) (hs : List Blk) : Prop := r = .c t ∧ hs = [tkB b s]
set_option maxRecDepth 100000 in
set_option maxHeartbeats 2000000 in
theorem one_ag (b : Nat) (s : TS) : AG Try.prog 167 [.ptr 0 b 0] [tkB b s] (Takes b (.lit (.int .i64 ((tOne s).1 : Int))) (tOne s).2) := by
  obtain ⟨l, ok⟩ := s
  refine ag_enter 1 tok Try.func167 Try.ntmps167 Try.results167 rfl (by kernel_rfl) rfl fun F => ?_
  cases l with
  | nil =>
    repeat (first | refine gG ?_ | refine zN1 (fun hlen => ?_) | refine zN2 (fun hlen => ?_))
    refine zG ?_
    exact ⟨rfl, rfl⟩
  | cons a r =>
    have d1 : decide ((((a :: r).length : Nat) : Int) = 0) = false := by simp; omega
    have hw : IntKind.i64.wrap (a.toNat : Int) = (a.toNat : Int) := by rw [IntWalk.i64_in _ (by have := a.toNat_lt; omega)]
    repeat (first | refine gG ?_ | refine zN1 (fun hlen => ?_) | refine zN2 (fun hlen => ?_))
    refine zIx 0 (show 0 < (a :: r).length by simp) ?_
    repeat (first | refine gG ?_ | refine zN1 (fun hlen => ?_) | refine zN2 (fun hlen => ?_))
    refine zPlb (l := a :: r) 1 (by simp) ?_
    repeat (first | refine gG ?_ | refine zN1 (fun hlen => ?_) | refine zN2 (fun hlen => ?_))
    refine lo_conv tok rfl rfl rfl rfl hw ?_
    repeat (first | refine gG ?_ | refine zN1 (fun hlen => ?_) | refine zN2 (fun hlen => ?_))
    refine zG ?_
    exact ⟨rfl, rfl⟩
def un (i : Nat) : Int := IntKind.i64.wrap ((128 ^ i : Nat) : Int)
theorem pow8 {i : Nat} (h : i ≤ 8) : 128 ^ i ≤ 2 ^ 56 := by
  have : 128 ^ i ≤ 128 ^ 8 := Nat.pow_le_pow_right (by omega) h
  have e : 128 ^ 8 = 2 ^ 56 := rfl
  omega
theorem un_eq {i : Nat} (h : i ≤ 8) : un i = ((128 ^ i : Nat) : Int) := by
  have := pow8 h
  rw [un]
  generalize 128 ^ i = x at *
  rw [IntWalk.i64_in _ (by omega)]
theorem un_mul {i : Nat} (h : i ≤ 8) : IntKind.i64.wrap (un i * 128) = un (i + 1) := by
  rw [un_eq h, un, Nat.pow_succ]
  simp
set_option maxRecDepth 100000 in
set_option maxHeartbeats 2000000 in
theorem tnat_ag (b : Nat) (s : TS) : AG Try.prog 102 [.ptr 0 b 0] [tkB b s] (Takes b (.lit (.int .i64 ((tNat s).1 : Int))) (tNat s).2) := by
  refine ag_enter 1 tok Try.func102 Try.ntmps102 Try.results102 rfl (by kernel_rfl) rfl fun F => ?_
  repeat (first | refine gG ?_)
  refine x_loop [2, 3, 4, 5, 6, 7, 8, 9, 10, 11, 12, 13, 14, 15, 16, 17, 18, 19, 20, 21, 22, 23] (fun y : Nat × Nat × TS => [(5, .c (.lit (.int .i64 (y.1 : Int)))), (3, .c (.lit (.int .i64 (y.2.1 : Int)))), (4, .c (.lit (.int .i64 (un y.1))))]) (fun y => [tkB b y.2.2])
    (fun y => y.1 ≤ 9 ∧ y.2.1 < 128 ^ y.1 ∧ tNatL (9 - y.1) y.1 y.2.1 y.2.2 = tNat s) (fun y => 9 - y.1) (0, 0, s) ⟨by simp, by simp, rfl⟩ ⟨rfl, rfl, rfl, trivial⟩ rfl ?_
  rintro ⟨i, n, s'⟩ ⟨hi, hn, hinv⟩
  dsimp only at hi hn hinv ⊢
  repeat (first | refine gG ?_)
  refine x_cond rfl (fun h => ?_) (fun h => ?_)
  · have hi8 : i ≤ 8 := by have : (i : Int) < 9 := of_decide_eq_true h
                           omega
    rw [show 9 - i = (8 - i) + 1 by omega, tNatL] at hinv
    have hc := one_ag b s'
    have hlt := tOne_lt s'
    generalize tOne s' = p at *
    obtain ⟨c, s1⟩ := p
    dsimp only at hinv hc hlt
    have hp := pow8 hi8
    have hm : c % 128 * 128 ^ i ≤ 127 * 128 ^ i := Nat.mul_le_mul_right _ (by omega)
    have hn2 : n + c % 128 * 128 ^ i < 128 ^ (i + 1) := by rw [Nat.pow_succ]; omega
    repeat (first | refine gG ?_)
    refine zCallG [0] hc ?_
    rintro _ _ ⟨rfl, rfl⟩
    refine ⟨_, _, re_refl, rfl, rfl, ?_⟩
    repeat (first | refine gG ?_)
    refine lo_rem rfl rfl (by omega) (tmod128 c) ?_
    repeat (first | refine gG ?_)
    refine lo_mul rfl rfl (r := ((c % 128 * 128 ^ i : Nat) : Int)) (by rw [un_eq hi8, ← Int.natCast_mul, IntWalk.i64_in _ (by omega)]) ?_
    repeat (first | refine gG ?_)
    refine lo_add rfl rfl (r := ((n + c % 128 * 128 ^ i : Nat) : Int)) (by rw [IntWalk.i64_in _ (by omega)]; omega) ?_
    cases d1 : decide ((c : Int) < 128)
    · have h1 : ¬ c < 128 := by have := of_decide_eq_false d1; omega
      rw [if_neg h1] at hinv
      repeat (first | refine gG ?_)
      refine lo_mul rfl rfl (un_mul hi8) ?_
      repeat (first | refine gG ?_)
      exact ⟨(i + 1, n + c % 128 * 128 ^ i, s1), ⟨by simp only; omega, hn2, by simp only; rw [show 9 - (i + 1) = 8 - i by omega]; exact hinv⟩, by simp only; omega, x_wkd 1 ⟨rfl, rfl, rfl, trivial⟩ rfl (by repeat (first | exact ag_refl | refine ag_upd rfl ?_ | refine ag_at rfl rfl ?_))⟩
    · have h1 : c < 128 := by have := of_decide_eq_true d1; omega
      rw [if_pos h1] at hinv
      repeat (first | refine gG ?_)
      refine zG ?_
      rw [← hinv]
      exact ⟨rfl, rfl⟩
  · have hi9 : i = 9 := by have : ¬ (i : Int) < 9 := of_decide_eq_false h
                           omega
    subst hi9
    obtain ⟨l', ok'⟩ := s'
    repeat (first | refine gG ?_)
    refine zG ?_
    rw [← hinv]
    exact ⟨rfl, rfl⟩
theorem shl_w (c i : Nat) (hi : i ≤ 9) : IntKind.u64.wrap ((c : Int) * 2 ^ (min ((((7 * i : Nat) : Nat) : Int)).toNat IntKind.u64.bits)) = ((c * 128 ^ i % 2 ^ 64 : Nat) : Int) := by
  have h1 : min ((((7 * i : Nat) : Nat) : Int)).toNat IntKind.u64.bits = 7 * i := by
    have : IntKind.u64.bits = 64 := rfl
    rw [this]
    omega
  rw [h1, wrap_u64]
  have h2 : (c : Int) * 2 ^ (7 * i) = ((c * 128 ^ i : Nat) : Int) := by
    rw [← p128]
    simp
  rw [h2]
  omega
set_option maxRecDepth 100000 in
set_option maxHeartbeats 2000000 in
theorem tnum_ag (b : Nat) (s : TS) : AG Try.prog 103 [.ptr 0 b 0] [tkB b s] (Takes b (.lit (.int .i64 (tNum s).1)) (tNum s).2) := by
  refine ag_enter 1 tok Try.func103 Try.ntmps103 Try.results103 rfl (by kernel_rfl) rfl fun F => ?_
  repeat (first | refine gG ?_)
  refine x_loop [2, 3, 4, 5, 6, 7, 8, 9, 10, 11, 12, 13, 14, 15, 16, 17, 18, 19, 20, 21, 22, 23, 24, 25, 26, 27, 28, 29, 30, 31, 32] (fun y : Nat × Nat × TS => [(4, .c (.lit (.int .i64 (y.1 : Int)))), (3, .c (.lit (.int .u64 (y.2.1 : Int))))]) (fun y => [tkB b y.2.2])
    (fun y => y.1 ≤ 10 ∧ y.2.1 < 2 ^ 64 ∧ tNumL (10 - y.1) y.1 y.2.1 y.2.2 = tNum s) (fun y => 10 - y.1) (0, 0, s) ⟨by simp, by simp, rfl⟩ ⟨rfl, rfl, trivial⟩ rfl ?_
  rintro ⟨i, n, s'⟩ ⟨hi, hn, hinv⟩
  dsimp only at hi hn hinv ⊢
  repeat (first | refine gG ?_)
  refine x_cond rfl (fun h => ?_) (fun h => ?_)
  · have hi9 : i ≤ 9 := by have : (i : Int) < 10 := of_decide_eq_true h
                           omega
    rw [show 10 - i = (9 - i) + 1 by omega, tNumL] at hinv
    have hc := one_ag b s'
    have hlt := tOne_lt s'
    generalize tOne s' = p at *
    obtain ⟨c, s1⟩ := p
    dsimp only at hinv hc hlt
    repeat (first | refine gG ?_)
    refine zCallG [0] hc ?_
    rintro _ _ ⟨rfl, rfl⟩
    refine ⟨_, _, re_refl, rfl, rfl, ?_⟩
    repeat (first | refine gG ?_)
    refine lo_rem rfl rfl (by omega) (tmod128 c) ?_
    repeat (first | refine gG ?_)
    refine lo_conv tok rfl rfl rfl rfl (r := ((c % 128 : Nat) : Int)) (by rw [wrap_u64]; omega) ?_
    repeat (first | refine gG ?_)
    refine lo_mul rfl rfl (r := ((7 * i : Nat) : Int)) (by rw [IntWalk.i64_in _ (by omega)]; omega) ?_
    repeat (first | refine gG ?_)
    refine lo_shl rfl rfl (by omega) (shl_w (c % 128) i hi9) ?_
    repeat (first | refine gG ?_)
    refine lo_add rfl rfl (r := (((n + c % 128 * 128 ^ i) % 2 ^ 64 : Nat) : Int)) (by rw [wrap_u64]; omega) ?_
    have hn2 : (n + c % 128 * 128 ^ i) % 2 ^ 64 < 2 ^ 64 := Nat.mod_lt _ (by decide)
    generalize (n + c % 128 * 128 ^ i) % 2 ^ 64 = n' at *
    cases d1 : decide ((c : Int) < 128)
    · have h1 : ¬ c < 128 := by have := of_decide_eq_false d1; omega
      rw [if_neg h1] at hinv
      repeat (first | refine gG ?_)
      exact ⟨(i + 1, n', s1), ⟨by simp only; omega, hn2, by simp only; rw [show 10 - (i + 1) = 9 - i by omega]; exact hinv⟩, by simp only; omega, x_wkd 1 ⟨rfl, rfl, trivial⟩ rfl (by repeat (first | exact ag_refl | refine ag_upd rfl ?_ | refine ag_at rfl rfl ?_))⟩
    · have h1 : c < 128 := by have := of_decide_eq_true d1; omega
      rw [if_pos h1] at hinv
      have e2 : (n' : Int).tmod 2 = ((n' % 2 : Nat) : Int) := by rw [Int.tmod_eq_emod_of_nonneg (by omega)]; omega
      have e3 : (n' : Int).tdiv 2 = ((n' / 2 : Nat) : Int) := by rw [Int.tdiv_eq_ediv_of_nonneg (by omega)]; omega
      repeat (first | refine gG ?_)
      refine lo_rem rfl rfl (by omega) e2 ?_
      cases d2 : decide (((n' % 2 : Nat) : Int) = 1)
      · have h2 : n' % 2 = 0 := by have := of_decide_eq_false d2; omega
        repeat (first | refine gG ?_)
        refine lo_quo rfl rfl (by omega) (r := ((n' / 2 : Nat) : Int)) (by rw [e3, wrap_u64]; omega) ?_
        repeat (first | refine gG ?_)
        refine lo_conv tok rfl rfl rfl rfl (r := ((n' / 2 : Nat) : Int)) (by rw [IntWalk.i64_in _ (by omega)]) ?_
        repeat (first | refine gG ?_)
        refine zG ?_
        rw [← hinv, dz, if_pos h2]
        exact ⟨rfl, rfl⟩
      · have h2 : ¬ n' % 2 = 0 := by have := of_decide_eq_true d2; omega
        repeat (first | refine gG ?_)
        refine lo_quo rfl rfl (by omega) (r := ((n' / 2 : Nat) : Int)) (by rw [e3, wrap_u64]; omega) ?_
        repeat (first | refine gG ?_)
        refine lo_conv tok rfl rfl rfl rfl (r := ((n' / 2 : Nat) : Int)) (by rw [IntWalk.i64_in _ (by omega)]) ?_
        repeat (first | refine gG ?_)
        refine lo_neg rfl (r := -((n' / 2 : Nat) : Int)) (by rw [IntWalk.i64_in _ (by omega)]; omega) ?_
        repeat (first | refine gG ?_)
        refine lo_sub rfl rfl (r := -((n' / 2 : Nat) : Int) - 1) (by rw [IntWalk.i64_in _ (by omega)]) ?_
        repeat (first | refine gG ?_)
        refine zG ?_
        rw [← hinv, dz, if_neg h2]
        exact ⟨rfl, rfl⟩
  · have hi10 : i = 10 := by have : ¬ (i : Int) < 10 := of_decide_eq_false h
                             omega
    subst hi10
    obtain ⟨l', ok'⟩ := s'
    repeat (first | refine gG ?_)
    refine zG ?_
    rw [← hinv]
    exact ⟨rfl, rfl⟩
set_option maxRecDepth 100000 in
set_option maxHeartbeats 2000000 in
theorem ttext_ag (b : Nat) (s : TS) : AG Try.prog 168 [.ptr 0 b 0] [tkB b s] (Takes b (.lit (.string (bs (tText s).1))) (tText s).2) := by
  have hc := tnat_ag b s
  unfold tText
  generalize tNat s = p at *
  obtain ⟨u, l, ok⟩ := p
  dsimp only at hc ⊢
  have d0 : decide ((u : Int) < 0) = false := decide_eq_false (by omega)
  refine ag_enter 1 tok Try.func168 Try.ntmps168 Try.results168 rfl (by kernel_rfl) rfl fun F => ?_
  repeat (first | refine gG ?_ | refine zN1 (fun hlen => ?_) | refine zN2 (fun hlen => ?_))
  refine zCallG [0] hc ?_
  rintro _ _ ⟨rfl, rfl⟩
  refine ⟨_, _, re_refl, rfl, rfl, ?_⟩
  cases d1 : decide ((l.length : Int) < (u : Int))
  · cases d2 : decide ((4000 : Int) < (u : Int))
    · have h1 : ¬ (l.length < u ∨ 4000 < u) := by have := of_decide_eq_false d1; have := of_decide_eq_false d2; omega
      rw [if_neg h1]
      repeat (first | refine gG ?_ | refine zN1 (fun hlen => ?_) | refine zN2 (fun hlen => ?_))
      refine zPhb (l := l) u (by omega) ?_
      repeat (first | refine gG ?_ | refine zN1 (fun hlen => ?_) | refine zN2 (fun hlen => ?_))
      refine zStr (l.take u) rfl rfl ?_
      repeat (first | refine gG ?_ | refine zN1 (fun hlen => ?_) | refine zN2 (fun hlen => ?_))
      refine zPlb (l := l) u (by omega) ?_
      repeat (first | refine gG ?_ | refine zN1 (fun hlen => ?_) | refine zN2 (fun hlen => ?_))
      refine zG ?_
      exact ⟨rfl, rfl⟩
    · have h1 : l.length < u ∨ 4000 < u := by have := of_decide_eq_true d2; omega
      rw [if_pos h1]
      repeat (first | refine gG ?_ | refine zN1 (fun hlen => ?_) | refine zN2 (fun hlen => ?_))
      refine zG ?_
      exact ⟨rfl, rfl⟩
  · have h1 : l.length < u ∨ 4000 < u := by have := of_decide_eq_true d1; omega
    rw [if_pos h1]
    repeat (first | refine gG ?_ | refine zN1 (fun hlen => ?_) | refine zN2 (fun hlen => ?_))
    refine zG ?_
    exact ⟨rfl, rfl⟩
end Go.Proofs.Ythgackidonocpaa
namespace Go.Proofs.Ythgackidonocpaa
open Go.RowKit
section
variable {F : Frm} {τ : Nat → AV} {hp : List Blk} {N : Nat}
theorem wk_fzc (i j : Nat) {q b : Nat} {v : Value} {e t : TypeId} {sz n : Nat} {ts : List T} {cs cs' : List AV} {hp' : List Blk} (hi : hp[i]? = some (.box b t cs)) (hj : cs[j]? = some (.own q v)) (hq : hp[q]? = some (.row v e sz n ts)) (hiq : Nat.beq i q = false) (hc : evl (cs.set j (.c (.row n sz ts))) = some cs') (hf : evl ((hp.set q .dead).set i (.box b t cs')) = some hp') : Wk F ⟨τ, hp, N⟩ ⟨τ, hp', N⟩ := by
  intro M a w hr
  have hne : i ≠ q := fun e => by rw [e, Nat.beq_refl] at hiq; cases hiq
  obtain ⟨h1, h2⟩ := heap_frz hr.heap hq
  have hi' : (hp.set q .dead)[i]? = some (.box b t cs) := by rw [List.getElem?_set_ne (Ne.symm hne)]; exact hi
  have hlt : i < (hp.set q .dead).length := (List.getElem?_eq_some_iff.1 hi').1
  have h3 : HeapOk F (frB M v.ownBlock w) ((hp.set q .dead).set i (.box b t cs')) w := by
    refine h1.step i rfl rfl rfl (Nat.le_refl _) (fun _ _ _ => rfl) (Ext.refl _ _) (fun p v h1 h2 => by rw [h2] at h1; cases h1) (fun m hm => by rw [List.getElem?_set_ne (Ne.symm hm)]) (fun x' hx' => ?_)
    rw [List.getElem?_set_self hlt] at hx'
    obtain rfl : Blk.box b t cs' = x' := by injection hx'
    obtain ⟨xs, g1, g2, g3⟩ := h1.at_ i _ hi'
    refine ⟨⟨xs, g1, ?_, g3⟩, fun b' hb' => .inl ⟨_, hi', hb'⟩⟩
    rw [evl_eq hc]
    obtain ⟨x, hx, hxr⟩ := g2.get hj
    simp only [RA] at hxr
    have hjl : j < xs.length := (List.getElem?_eq_some_iff.1 hx).1
    have hxj : xs[j] = x := by rw [List.getElem?_eq_getElem hjl] at hx; injection hx
    have : RAs (frB M v.ownBlock w) (cs.set j (.c (.row n sz ts))) (xs.set j x) := RAs.set j g2 (by simp only [RA]; rw [hxr.1]; exact h2)
    rwa [show xs.set j x = xs from by rw [← hxj]; exact List.set_getElem_self hjl] at this
  exact ⟨_, fun k => RA.mono (frB_sub _ _ _) _ _ (hr.tmps k), hr.size, hr.defers, by rw [evl_eq hf]; exact h3⟩
theorem x_fzc {P : Program} {Q : Exit → AS → Prop} {c : Code} (i j : Nat) {q b : Nat} {v : Value} {e t : TypeId} {sz n : Nat} {ts : List T} {cs cs' : List AV} {hp' : List Blk} (h : AC P F c Q ⟨τ, hp', N⟩) (hi : hp[i]? = some (.box b t cs) := by exact rfl) (hj : cs[j]? = some (.own q v) := by exact rfl) (hq : hp[q]? = some (.row v e sz n ts) := by exact rfl) (hiq : Nat.beq i q = false := by exact rfl) (hc : evl (cs.set j (.c (.row n sz ts))) = some cs' := by exact rfl) (hf : evl ((hp.set q .dead).set i (.box b t cs')) = some hp' := by exact rfl) : AC P F c Q ⟨τ, hp, N⟩ :=
  ac_wk (wk_fzc i j hi hj hq hiq hc hf) h
end
end Go.Proofs.Ythgackidonocpaa
