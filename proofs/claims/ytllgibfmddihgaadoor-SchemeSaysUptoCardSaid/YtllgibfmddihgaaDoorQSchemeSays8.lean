/-
  Texts of this proof, part 8: Ab33 Ab34 Tza Tml Tnq Tzc Tzd Tze Tzf.
-/
import Derived.Test.YtllgibfmddihgaaDoorQSchemeSays7
import Derived.Laws.Strings2
import Derived.Lib.AppendStr
import Derived.Lib.AppendZerosOnto
import Derived.Lib.MinMax
namespace Go.Proofs.YtllgibfmddihgaaDoor
open Go.RowKit
section
variable {md : Region.Mode} {ops : Array Oper} {cls : Nat → Nat}
/-- m says, bit by bit, for whom each operation waits -/
def claimB (md : Region.Mode) (ops : Array Oper) (m : List Nat) : Bool :=
  (List.range ops.size).all fun j => (List.range ops.size).all fun i => !(m.getD j 0).testBit i ||
    (match ops[j]? with
      | some oj => oj.after.any fun e => Region.binds md e && (e.on == i || (Nat.blt e.on j && (m.getD e.on 0).testBit i))
      | none => false)
theorem claim_reach {m : List Nat} (h : claimB md ops m = true) {i : Nat} (hi : i < ops.size) : ∀ (f j : Nat), j < f → j < ops.size → (m.getD j 0).testBit i = true → reachB md ops f j i = true
  | 0, _, h0, _, _ => by omega
  | f + 1, j, hf, hj, hb => by
    have h1 := List.all_eq_true.1 (List.all_eq_true.1 h j (List.mem_range.2 hj)) i (List.mem_range.2 hi)
    rw [hb] at h1
    simp only [Bool.not_true, Bool.false_or] at h1
    unfold reachB
    split at h1
    · rename_i oj hoj
      rw [hoj]
      obtain ⟨e, he, hq⟩ := Array.any_eq_true'.1 h1
      refine Array.any_eq_true'.2 ⟨e, he, ?_⟩
      simp only [Bool.and_eq_true, Bool.or_eq_true, beq_iff_eq] at hq ⊢
      refine ⟨hq.1, hq.2.imp id fun h2 => ?_⟩
      have hlt : e.on < j := by simpa using h2.1
      exact claim_reach h hi f e.on (by omega) (by omega) h2.2
    · cases h1
def freeC (ops : Array Oper) (cls : Nat → Nat) (m : List Nat) (listed : Array Bool) (i : Nat) : Bool :=
  match ops[i]? with
  | none => false
  | some oi => (List.range ops.size).all fun j => j == i || listed.getD j true || (m.getD j 0).testBit i ||
      (match ops[j]? with | some oj => oi.apart ops oj && (cls j != 2 || cls i == 0) | none => true)
theorem freeC_A {m : List Nat} (h : claimB md ops m = true) {listed : Array Bool} {i : Nat} (hf : freeC ops cls m listed i = true) : freeA md ops cls listed i = true := by
  unfold freeC at hf
  unfold freeA
  split at hf
  · cases hf
  · rename_i oi hoi
    rw [hoi]
    refine List.all_eq_true.2 fun j hj => ?_
    have h1 := List.all_eq_true.1 hf j hj
    simp only [Bool.or_eq_true] at h1 ⊢
    rcases h1 with ((h1 | h1) | h1) | h1
    · exact .inl (.inl (.inl h1))
    · exact .inl (.inl (.inr h1))
    · exact .inl (.inr (claim_reach h (Array.getElem?_eq_some_iff.1 hoi).1 _ j (List.mem_range.1 hj) (List.mem_range.1 hj) h1))
    · exact .inr h1
def ordC (md : Region.Mode) (ops : Array Oper) (cls : Nat → Nat) (m : List Nat) : List Nat → Array Bool → Bool
  | [], listed => (Region.ready md ops listed).isEmpty
  | i :: r, listed => (if 2 ≤ cls i then decide (Region.ready md ops listed = [i]) else (Region.ready md ops listed).contains i && freeC ops cls m listed i) && ordC md ops cls m r (listed.setIfInBounds i true)
theorem ordC_B {m : List Nat} (h : claimB md ops m = true) : ∀ (r : List Nat) (listed : Array Bool), ordC md ops cls m r listed = true → ordB md ops cls r listed = true
  | [], listed, ho => ho
  | i :: r, listed, ho => by
    simp only [ordC, ordB, Bool.and_eq_true] at ho ⊢
    refine ⟨?_, ordC_B h r _ ho.2⟩
    by_cases h2 : 2 ≤ cls i
    · rw [if_pos h2] at ho ⊢; exact ho.1
    · rw [if_neg h2] at ho ⊢
      have h3 := ho.1
      simp only [Bool.and_eq_true] at h3 ⊢
      exact ⟨h3.1, freeC_A h h3.2⟩
end
section
variable {P : Program} {F : Frm} {τ : Nat → AV} {hp : List Blk} {N : Nat} {Q : Exit → AS → Prop} {id : Nat} {l : List Oper}
theorem ac_drawB (m c r : List Nat) (hm : P.follows .mixedOrders = true) (hB : (claimB .any l.toArray m && (ordC .any l.toArray (clsOf c) m r (Array.replicate l.toArray.size false) && Nat.beq r.length l.length)) = true)
    (h : WO P F l.toArray N (clsOf c) (fun τ' hp' => Q .normal ⟨τ', hp', N⟩) r τ hp) : AC P F (.region id l.toArray true) Q ⟨τ, hp, N⟩ := by
  simp only [Bool.and_eq_true] at hB
  refine ac_draw c r hm ?_ h
  simp only [Bool.and_eq_true]
  exact ⟨ordC_B hB.1 _ _ hB.2.1, hB.2.2⟩
end
section
variable {P : Program} {F : Frm} {d : Option Tmp} {ty : TypeId} {pos : String} {aft : Array Edge} {g : Option (Nat × Bool)} {ρ : Operand → AV} {hp : List Blk} {K : AV → List Blk → Prop}
/-- the sum of two counts -/
theorem zAn {t t' : TypeId} {x y : Operand} {a b : Nat} (h : K (.c (.lit (.int .i64 ((a + b : Nat) : Int)))) hp) (hx : ρ x = .c (.lit (.int .i64 (a : Nat))) := by exact rfl) (hy : ρ y = .c (.lit (.int .i64 (b : Nat))) := by exact rfl) (hb : a + b ≤ 9223372036854775807 := by first | omega | (dsimp only at *; omega)) : LO P F ⟨d, .binOp .add t x y t', ty, pos, aft, g⟩ ρ hp K :=
  lo_add hx hy (by rw [IntWalk.i64_in _ (by omega)]; omega) h
end
/-- the driver, for sums of counts -/
theorem gA {G G' : Prop} (h : G') (e : Hold G' → G := by
    intro h
    first | refine zNil ?_ | refine zOp ?_ | refine zOpn ?_ | refine zNo ?_ | refine zNon ?_ | refine zUn ?_ | refine zUnn ?_ | refine zYes ?_ | refine zYesn ?_ | (refine zkL ?_; first | refine zL1 ?_ | refine zL2 ?_ | refine zL3 ?_ | refine zLp ?_) | refine zM ?_ | (refine zkF ?_; first | refine zF1 ?_ | refine zF2 ?_ | refine zF3 ?_) | refine zA ?_ | (refine zkB ?_; first | refine zC5 ?_ | refine zC6 ?_ | refine zC1 ?_ | refine zC2 ?_ | refine zC3 ?_ | refine zC4 ?_ | refine zS5 ?_ | refine zS6 ?_ | refine zS1 ?_ | refine zS2 ?_ | refine zS3 ?_ | refine zS4 ?_ | refine zAn ?_ | refine zQ1 ?_ | refine zQ2 ?_ | refine zQ3 ?_ | refine zQ4 ?_ | refine zQ5 ?_ | refine zQ6 ?_) | (refine zkI ?_; first | refine zN3 ?_ | refine zN4 ?_) | refine zS ?_ | refine zPt ?_ | refine zPf ?_ | refine zE ?_ | refine zEA ?_ | refine zNot ?_ | refine zBd ?_ | refine zFn ?_ | refine zK1 ?_ | refine zK2 ?_ | refine zBs ?_ | refine ac_seq ?_ | refine ac_block ?_ | refine ac_region ?_ | refine ac_skip ?_ | refine ac_exit ?_ | refine ac_ret ?_ | refine zT ?_ | refine zF ?_
    repeat (first | refine zNil ?_ | refine zOp ?_ | refine zOpn ?_ | refine zNo ?_ | refine zNon ?_ | refine zUn ?_ | refine zUnn ?_ | refine zYes ?_ | refine zYesn ?_ | (refine zkL ?_; first | refine zL1 ?_ | refine zL2 ?_ | refine zL3 ?_ | refine zLp ?_) | refine zM ?_ | (refine zkF ?_; first | refine zF1 ?_ | refine zF2 ?_ | refine zF3 ?_) | refine zA ?_ | (refine zkB ?_; first | refine zC5 ?_ | refine zC6 ?_ | refine zC1 ?_ | refine zC2 ?_ | refine zC3 ?_ | refine zC4 ?_ | refine zS5 ?_ | refine zS6 ?_ | refine zS1 ?_ | refine zS2 ?_ | refine zS3 ?_ | refine zS4 ?_ | refine zAn ?_ | refine zQ1 ?_ | refine zQ2 ?_ | refine zQ3 ?_ | refine zQ4 ?_ | refine zQ5 ?_ | refine zQ6 ?_) | (refine zkI ?_; first | refine zN3 ?_ | refine zN4 ?_) | refine zS ?_ | refine zPt ?_ | refine zPf ?_ | refine zE ?_ | refine zEA ?_ | refine zNot ?_ | refine zBd ?_ | refine zFn ?_ | refine zK1 ?_ | refine zK2 ?_ | refine zBs ?_ | refine ac_seq ?_ | refine ac_block ?_ | refine ac_region ?_ | refine ac_skip ?_ | refine ac_exit ?_ | refine ac_ret ?_ | refine zT ?_ | refine zF ?_)
    exact h.out) : G := e ⟨h⟩
end Go.Proofs.YtllgibfmddihgaaDoor
namespace Go.Proofs.YtllgibfmddihgaaDoor
open Go.RowKit
theorem lits_rt (M : Mm) : ∀ l : List Value, RTs M (l.map T.lit) l
  | [] => by simp only [List.map_nil, RTs]
  | v :: l => by simp only [List.map_cons, RTs]; exact ⟨v, l, rfl, by simp only [RT], lits_rt M l⟩
section
variable {P : Program} {F : Frm} {L : Tab} {d : Option Tmp} {ty : TypeId} {pos : String} {aft : Array Edge} {g : Option (Nat × Bool)} {ρ : Operand → AV} {hp : List Blk} {K : AV → List Blk → Prop}
theorem lo_cap_nil (hL : TabOk P L) {t el : TypeId} {ti : TI} {x : Operand} (hx : ρ x = .c (.lit (.slice none 0 0))) (ht : L.look t = some ti) (hd : ti.d = .slice el) (h : K (.c (.lit (.int .i64 0))) hp) : LO P F ⟨d, .call { callee := .builtin .cap, args := #[x], argTypes := #[t] }, ty, pos, aft, g⟩ ρ hp K := by
  refine LO.same (fun M e w he hh => ?_) h
  have h1 := he x (by first | (simp [Op.operands]; done) | simp [Op.operands, Call.operands])
  rw [hx] at h1
  simp only [RA, RT] at h1
  exact ⟨_, by simp [execOp, resolve, invoke, builtin, Builtin.cap_, h1, run_underlying (hL.slice ht hd), goInt]; rfl, by simp only [RA, RT]⟩
theorem lo_hi_nil (hL : TabOk P L) {t el : TypeId} {ti te : TI} {x y : Operand} {k : IntKind} (hx : ρ x = .c (.lit (.slice none 0 0))) (hy : ρ y = .c (.lit (.int k 0))) (ht : L.look t = some ti) (hd : ti.d = .slice el) (hte : L.look el = some te) (hK : K (.c (.lit (.slice none 0 0))) hp) : LO P F ⟨d, .slice t x none (some y) none, ty, pos, aft, g⟩ ρ hp K := by
  refine LO.same (fun M e w he _ => ?_) hK
  have h1 := he x (by simp [Op.operands])
  rw [hx] at h1
  simp only [RA, RT] at h1
  have h2 := he y (by simp [Op.operands])
  rw [hy] at h2
  simp only [RA, RT] at h2
  refine ⟨.slice none 0 0, ?_, by simp only [RA, RT]⟩
  have hb := run_sliceBound (P := P) (w := w) k (0 : Int) 0 .sliceAcap (by omega) (by omega)
  simp [execOp, Instr.sliceAt, Instr.slice, Instr.sliceBounds, h1, h2, run_underlying (hL.slice ht hd), hL.sizeOf hte, hb]
theorem exec_append2 {e : Operand → Value} {x y : Operand} {t u : TypeId} (w : World) {v' : Value} {w' : World} (h : (Builtin.append_ #[t, u] ty #[e x, e y]).run P w = .ok v' w') :
    (execOp e ⟨d, .call { callee := .builtin .append, args := #[x, y], argTypes := #[t, u] }, ty, pos, aft, g⟩).run P w = .ok (.value v') w' := by
  simp [execOp, resolve, invoke, builtin, h]
theorem lo_app0 (hL : TabOk P L) {t tn el : TypeId} {ti tin te : TI} {x y : Operand} (n : Nat) {kn : IntKind} (hn0 : 0 < n) (hx : ρ x = .c (.lit (.slice none 0 0))) (hy : ρ y = .c (.lit (.int .i64 (n : Nat)))) (ht : L.look t = some ti) (hd : ti.d = .slice el) (htn : L.look tn = some tin) (hdn : tin.d = .int kn) (hte : L.look el = some te) (h0 : 0 < te.size) (hbytes : n * te.bytes ≤ 140737488355328) (hn : n ≤ 140737488355328)
    (h : ∀ v' ts, K (.own hp.length v') (hp ++ [.row v' el te.size n ts])) : LO P F ⟨d, .call { callee := .builtin .append, args := #[x, y], argTypes := #[t, tn] }, ty, pos, aft, g⟩ ρ hp K := by
  refine ⟨fun M e w he hh => ?_⟩
  have h1 := he x (by first | (simp [Op.operands]; done) | simp [Op.operands, Call.operands])
  rw [hx] at h1
  simp only [RA, RT] at h1
  have h2 := he y (by first | (simp [Op.operands]; done) | simp [Op.operands, Call.operands])
  rw [hy] at h2
  simp only [RA, RT] at h2
  obtain ⟨inf, z, hi1, hi2, hi3, hi4, hi5, hi6, _⟩ := hL.info hte
  have g1 := Lib.run_append_grow_zeros (P := P) w t tn ty el inf z .i64 kn (hL.slice ht hd) (hL.int htn hdn) hi1 hi4 none 0 0 [] (by simp [Builtin.firstCells]) n hn0 (by omega) (by omega) (by omega) (by rw [hi3]; omega) (by rw [hi3]; exact growslice_fits (by omega) (by simpa using hbytes))
  simp only [Nat.zero_add] at g1
  rw [← h1, ← h2] at g1
  rw [exec_append2 w g1]
  have hge := grownCap_ge w n 0 el
  have hcm : grownCap w n 0 el ≤ maxLen := grownCap_le_maxLen w n 0 el (by unfold maxLen; omega)
  have hzl : (Builtin.zeroCells z.cells n).toList.length = n * te.size := by rw [Array.length_toList, size_zeroCells, hi6.1]
  have hone : OneAll (Builtin.zeroCells z.cells n).toList := by
    intro u hu
    simp only [Builtin.zeroCells, Array.toList_map, List.mem_map, Array.mem_toList_iff, Array.mem_range] at hu
    obtain ⟨j, hj, rfl⟩ := hu
    have hm : j % z.cells.size < z.cells.size := Nat.mod_lt _ (by rw [hi6.1]; omega)
    rw [getElem!_pos z.cells _ hm]
    refine hi6.2 _ ?_
    rw [← hi5]
    exact Array.getElem_mem_toList hm
  have hown : OwnsO (w.drew.alloc (.cells (#[] ++ Builtin.zeroCells z.cells n ++ Builtin.zeroCells z.cells (grownCap w n 0 el - n)) el)) el te.size (.slice (some ⟨w.heap.size, 0, none⟩) n (grownCap w n 0 el)) n (Builtin.zeroCells z.cells n).toList := by
    refine ⟨hzl, .inr ⟨w.heap.size, 0, _, _, rfl, heap_alloc_new w.drew _, hge, hcm, ?_, ?_⟩⟩
    · simp only [Array.size_append, size_zeroCells, hi6.1, Nat.zero_add, List.size_toArray, List.length_nil]
      rw [← Nat.add_mul]
      exact Nat.mul_le_mul_right _ (by omega)
    · simp only [Array.toList_append, List.drop_zero, List.nil_append]
      rw [← hzl]
      exact List.take_left
  generalize hxs : (Builtin.zeroCells z.cells n).toList = xs at *
  refine ⟨M, _, _, h (.slice (some ⟨w.heap.size, 0, none⟩) n (grownCap w n 0 el)) (xs.map T.lit), Ext.refl _ _, ?_, by simp only [RA]; exact ⟨trivial, rfl⟩⟩
  refine push_row (w' := w.drew.alloc (.cells (#[] ++ Builtin.zeroCells z.cells n ++ Builtin.zeroCells z.cells (grownCap w n 0 el - n)) el)) (x := .row (.slice (some ⟨w.heap.size, 0, none⟩) n (grownCap w n 0 el)) el te.size n (xs.map T.lit)) hh rfl rfl rfl (by simp) (fun b hb => heap_alloc_old w.drew _ hb) (Ext.refl _ _) (fun p v h1 h2 => by rw [h2] at h1; cases h1) ⟨xs, hown, lits_rt M xs, hone, h0⟩ (fun b hb => ?_)
  obtain rfl : w.heap.size = b := by simpa [Blk.blk, Value.ownBlock] using hb
  exact ⟨Nat.le_refl _, fun p hp => mem_fresh hh.mem (by omega)⟩
theorem zCap0 {t el : TypeId} {ti : TI} {x : Operand} (h : K (.c (.lit (.int .i64 0))) hp) (hL : TabOk P L := by exact tok) (hx : ρ x = .c (.lit (.slice none 0 0)) := by exact rfl) (ht : L.look t = some ti := by exact rfl) (hd : ti.d = .slice el := by exact rfl) : LO P F ⟨d, .call { callee := .builtin .cap, args := #[x], argTypes := #[t] }, ty, pos, aft, g⟩ ρ hp K := lo_cap_nil hL hx ht hd h
theorem zHn {t el : TypeId} {ti te : TI} {x y : Operand} {k : IntKind} (h : K (.c (.lit (.slice none 0 0))) hp) (hL : TabOk P L := by exact tok) (hx : ρ x = .c (.lit (.slice none 0 0)) := by exact rfl) (hy : ρ y = .c (.lit (.int k 0)) := by exact rfl) (ht : L.look t = some ti := by exact rfl) (hd : ti.d = .slice el := by exact rfl) (hte : L.look el = some te := by exact rfl) : LO P F ⟨d, .slice t x none (some y) none, ty, pos, aft, g⟩ ρ hp K := lo_hi_nil hL hx hy ht hd hte h
theorem zAp0 {t tn el : TypeId} {ti tin te : TI} {x y : Operand} {kn : IntKind} {k : Nat} {hp' : Value → List T → List Blk} (n : Nat) (hn0 : 0 < n) (hn : n ≤ 1048576) (h : ∀ v' ts, K (.own k v') (hp' v' ts)) (hL : TabOk P L := by exact tok) (hx : ρ x = .c (.lit (.slice none 0 0)) := by exact rfl) (hy : ρ y = .c (.lit (.int .i64 (n : Nat))) := by exact rfl) (ht : L.look t = some ti := by exact rfl) (hd : ti.d = .slice el := by exact rfl) (htn : L.look tn = some tin := by exact rfl) (hdn : tin.d = .int kn := by exact rfl) (hte : L.look el = some te := by exact rfl) (h0 : Nat.ble 1 te.size = true := by exact rfl) (hb : te.bytes ≤ 1048576 := by decide) (hk : lenU hp = some k := by exact rfl)
    (hf : ∀ v' ts, evl (hp ++ [.row v' el te.size n ts]) = some (hp' v' ts) := by exact fun _ _ => rfl) : LO P F ⟨d, .call { callee := .builtin .append, args := #[x, y], argTypes := #[t, tn] }, ty, pos, aft, g⟩ ρ hp K :=
  lo_app0 hL n hn0 hx hy ht hd htn hdn hte (Nat.le_of_ble_eq_true h0) (Nat.le_trans (Nat.mul_le_mul hn hb) (by decide)) (by omega) fun v' ts => by
    rw [← lenU_eq hk, ← evl_eq (hf v' ts)]; exact h v' ts
end
end Go.Proofs.YtllgibfmddihgaaDoor
namespace Go.Proofs.YtllgibfmddihgaaDoor
open Go.RowKit
set_option maxRecDepth 100000 in
set_option maxHeartbeats 1000000 in
theorem growY_ag (n : Nat) (hn : n ≤ 1048576) : AG Tryd.prog 162 [.c (.lit (.slice none 0 0)), .c (.lit (.int .i64 (n : Nat)))] [] (fun r hs => ∃ v', r = .own 0 v' ∧ hs = [.row v' 64 3 0 []]) := by
  have d0 : decide (((n : Nat) : Int) < 0) = false := decide_eq_false (by omega)
  rcases Nat.eq_zero_or_pos n with rfl | h0
  · have d1 : decide ((0 : Int) < (((0 : Nat) : Nat) : Int) - (0 - 0)) = false := rfl
    refine ag_enter 2 tok Tryd.func162 Tryd.ntmps162 Tryd.results162 rfl (by kernel_rfl) rfl fun F => ?_
    repeat (first | refine gO ?_ | refine zSub ?_ | refine zCap0 ?_ | refine ac_seq ?_ | refine ac_block ?_ | refine ac_region ?_ | refine ac_skip ?_ | refine zT ?_ | refine zF ?_)
    refine x_own 4 64 3 rfl rfl rfl rfl rfl ?_
    repeat (first | refine gG ?_ | refine zN1 (fun hlen => ?_) | refine zN2 (fun hlen => ?_) | refine zSub ?_ | refine zAp (fun _ => ?_))
    refine zG ?_
    exact ⟨_, rfl, rfl⟩
  · have d1 : decide ((0 : Int) < ((n : Nat) : Int) - (0 - 0)) = true := decide_eq_true (by omega)
    refine ag_enter 2 tok Tryd.func162 Tryd.ntmps162 Tryd.results162 rfl (by kernel_rfl) rfl fun F => ?_
    repeat (first | refine gG ?_ | refine zSub ?_ | refine zCap0 ?_ | refine zHn ?_)
    refine zAp0 n h0 hn (fun _ ts => ?_)
    repeat (first | refine gG ?_ | refine zSub ?_ | refine zCap0 ?_ | refine zHn ?_)
    refine zQh (n := n) 0 (Nat.zero_le _) (fun _ => ?_)
    repeat (first | refine gG ?_ | refine zN1 (fun hlen => ?_) | refine zN2 (fun hlen => ?_) | refine zSub ?_ | refine zAp (fun _ => ?_))
    refine zG ?_
    exact ⟨_, rfl, rfl⟩
theorem catY_at {L : List (List Y)} {k : Nat} {a : List Y} (h : L[k]? = some a) : (L.map fun x => Y.row x)[k * 1]? = some (Y.row a) := by simp [h]
set_option maxRecDepth 100000 in
set_option maxHeartbeats 1000000 in
theorem concatY_af (L : List (List Y)) (hL : L.flatten.length ≤ 1048576) (hl : L.length ≤ 1048576) : AF Tryd.prog 122 [.row L.length 1 (L.map fun x => Y.row x)] (· = Y.row L.flatten) := by
  have hg := growY_ag L.flatten.length hL
  refine af_enter tok Tryd.func122 Tryd.ntmps122 Tryd.results122 rfl (by kernel_rfl) rfl rfl fun F hX => ?_
  repeat (first | refine gG ?_ | refine zN1 (fun hlen => ?_) | refine zN2 (fun hlen => ?_) | refine zAp (fun _ => ?_))
  refine x_loop [3, 5, 11, 12, 13, 14, 15, 16, 17, 18, 19, 20, 21, 22] (fun k : Nat => [(11, .c (.lit (.int .i64 (k : Nat)))), (3, .c (.lit (.int .i64 ((L.take k).flatten.length : Nat))))]) (fun _ => []) (fun k => k ≤ L.length) (fun k => L.length - k) 0 (Nat.zero_le _) ⟨rfl, rfl, trivial⟩ rfl ?_
  intro k hk
  repeat (first | refine gG ?_ | refine zN1 (fun hlen => ?_) | refine zN2 (fun hlen => ?_) | refine zAp (fun _ => ?_))
  refine x_cond rfl (fun h => ?_) (fun h => ?_)
  · have hk' : k < L.length := by simpa using h
    obtain ⟨a, ha⟩ := nth hk'
    have hat := catY_at ha
    have hsn : (L.take (k + 1)).flatten.length = (L.take k).flatten.length + a.length := by rw [List.take_add_one, ha]; simp
    have hle : (L.take (k + 1)).flatten.length ≤ L.flatten.length := by
      have := congrArg (fun r => r.flatten.length) (List.take_append_drop (k + 1) L)
      simp only [List.flatten_append, List.length_append] at this
      omega
    have d0 : decide ((((L.take k).flatten.length + a.length : Nat) : Int) < 0) = false := decide_eq_false (by omega)
    clear h ha
    repeat (first | refine gG ?_ | refine zN1 (fun hlen => ?_) | refine zN2 (fun hlen => ?_) | refine zAp (fun _ => ?_))
    refine zIx k hk' ?_
    repeat (first | refine gG ?_ | refine zN1 (fun hlen => ?_) | refine zN2 (fun hlen => ?_) | refine zAp (fun _ => ?_))
    refine zEl1 hat ?_
    repeat (first | refine gA ?_ | refine zN1 (fun hlen => ?_) | refine zN2 (fun hlen => ?_))
    exact ⟨k + 1, hk', by omega, x_wkd 0 ⟨rfl, by rw [hsn]; rfl, trivial⟩ rfl (by repeat (first | exact ag_refl | refine ag_upd rfl ?_ | refine ag_at rfl rfl ?_))⟩
  have hk' : k = L.length := by
    have : ¬ k < L.length := by simpa using h
    omega
  subst hk'
  clear h hk
  rw [List.take_length]
  repeat (first | refine gG ?_ | refine zN1 (fun hlen => ?_) | refine zN2 (fun hlen => ?_) | refine zAp (fun _ => ?_))
  refine zCallG [] hg ?_
  rintro _ _ ⟨v', rfl, rfl⟩
  refine ⟨.own 0 v', _, re_own, rfl, rfl, ?_⟩
  clear hg
  repeat (first | refine gG ?_ | refine zN1 (fun hlen => ?_) | refine zN2 (fun hlen => ?_) | refine zAp (fun _ => ?_))
  refine x_loop [6, 8, 27, 28, 29, 30, 31, 32, 33, 34] (fun y : Nat × Value => [(27, .c (.lit (.int .i64 (y.1 : Nat)))), (6, .own 0 y.2)]) (fun y => [.row y.2 64 3 (L.take y.1).flatten.length (Y.all (L.take y.1).flatten)]) (fun y => y.1 ≤ L.length) (fun y => L.length - y.1) (0, v') (Nat.zero_le _) ⟨rfl, rfl, trivial⟩ rfl ?_
  rintro ⟨k, v⟩ hk
  dsimp only at hk ⊢
  repeat (first | refine gG ?_ | refine zN1 (fun hlen => ?_) | refine zN2 (fun hlen => ?_) | refine zAp (fun _ => ?_))
  refine x_cond rfl (fun h => ?_) (fun h => ?_)
  · have hk' : k < L.length := by simpa using h
    obtain ⟨a, ha⟩ := nth hk'
    have hat := catY_at ha
    have hsn : (L.take (k + 1)).flatten = (L.take k).flatten ++ a := by rw [List.take_add_one, ha]; simp
    have hle : (L.take (k + 1)).flatten.length ≤ L.flatten.length := by
      have := congrArg (fun r => r.flatten.length) (List.take_append_drop (k + 1) L)
      simp only [List.flatten_append, List.length_append] at this
      omega
    have hl1 : (L.take (k + 1)).flatten.length = (L.take k).flatten.length + a.length := by rw [hsn, List.length_append]
    have hc1 : Y.all (L.take (k + 1)).flatten = Y.all (L.take k).flatten ++ Y.all a := by rw [hsn]; exact Y.all_app _ _
    clear h ha hsn
    repeat (first | refine gG ?_ | refine zN1 (fun hlen => ?_) | refine zN2 (fun hlen => ?_) | refine zAp (fun _ => ?_))
    refine zIx k hk' ?_
    repeat (first | refine gG ?_ | refine zN1 (fun hlen => ?_) | refine zN2 (fun hlen => ?_) | refine zAp (fun _ => ?_))
    refine zEl1 hat ?_
    repeat (first | refine gG ?_ | refine zN1 (fun hlen => ?_) | refine zN2 (fun hlen => ?_) | refine zAp (fun _ => ?_))
    exact ⟨(k + 1, _), hk', by simp only; omega, x_wkd 1 ⟨rfl, rfl, trivial⟩ (by simp only [hl1, hc1]; rfl) (by repeat (first | exact ag_refl | refine ag_upd rfl ?_ | refine ag_at rfl rfl ?_))⟩
  · have hk' : k = L.length := by
      have : ¬ k < L.length := by simpa using h
      omega
    subst hk'
    clear h
    rw [List.take_length]
    repeat (first | refine gG ?_ | refine zN1 (fun hlen => ?_) | refine zN2 (fun hlen => ?_) | refine zAp (fun _ => ?_))
    first | refine zR ?_ | refine zQ ?_
    rfl
theorem catY2_af (a b : List Y) (h : a.length + b.length ≤ 1048576) : AF Tryd.prog 122 [.row 2 1 [Y.row a, Y.row b]] (· = Y.row (a ++ b)) := by
  have := concatY_af [a, b] (by simpa using h) (by simp)
  simpa using this
end Go.Proofs.YtllgibfmddihgaaDoor
namespace Go.Proofs.YtllgibfmddihgaaDoor
open Go.RowKit
theorem lo_eqsr {P : Program} {F : Frm} {d : Option Tmp} {ty : TypeId} {pos : String} {aft : Array Edge} {g : Option (Nat × Bool)} {ρ : Operand → AV} {hp : List Blk} {K : AV → List Blk → Prop} {t t' : TypeId} {x y : Operand} {a b : ByteArray} {r : Bool} (hr : decide (a = b) = r) (h : K (.c (.lit (.bool r))) hp) (hx : ρ x = .c (.lit (.string a)) := by exact rfl) (hy : ρ y = .c (.lit (.string b)) := by exact rfl) : LO P F ⟨d, .binOp .eql t x y t', ty, pos, aft, g⟩ ρ hp K :=
  lo_eqs hx hy (hr ▸ h)
theorem lo_nesr {P : Program} {F : Frm} {d : Option Tmp} {ty : TypeId} {pos : String} {aft : Array Edge} {g : Option (Nat × Bool)} {ρ : Operand → AV} {hp : List Blk} {K : AV → List Blk → Prop} {t t' : TypeId} {x y : Operand} {a b : ByteArray} {r : Bool} (h : K (.c (.lit (.bool r))) hp) (hx : ρ x = .c (.lit (.string a)) := by exact rfl) (hy : ρ y = .c (.lit (.string b)) := by exact rfl) (hr : (!decide (a = b)) = r := by simp) : LO P F ⟨d, .binOp .neq t x y t', ty, pos, aft, g⟩ ρ hp K :=
  lo_nes hx hy (hr ▸ h)
end Go.Proofs.YtllgibfmddihgaaDoor
namespace Go.Proofs.YtllgibfmddihgaaDoor
open Go.RowKit
theorem eqBy_self {α : Type} {p : α → α → Bool} (h : ∀ a, p a a = true) : ∀ l : List α, eqBy p l l = true
  | [] => rfl
  | a :: l => by rw [eqBy, h a, eqBy_self h l]; rfl
theorem eqStr_self (a : ByteArray) : eqStr a a = true := by simp [eqStr]
end Go.Proofs.YtllgibfmddihgaaDoor
namespace Go.Proofs.YtllgibfmddihgaaDoor
open Go.RowKit
def Ex.tys : Ex → List Y
  | .mk _ _ _ _ ys _ _ _ => ys
end Go.Proofs.YtllgibfmddihgaaDoor
namespace Go.Proofs.YtllgibfmddihgaaDoor
open Go.RowKit
theorem zPlg {P : Program} {L : Tab} {F : Frm} {d : Option Tmp} {ty : TypeId} {pos : String} {aft : Array Edge} {g : Option (Nat × Bool)} {ρ : Operand → AV} {hp : List Blk} {K : AV → List Blk → Prop} {t el : TypeId} {ti te : TI} {x y : Operand} {n sz : Nat} {cs : List T} {k : IntKind} {z : Int} (m : Nat) (hm : m ≤ n) (n' : Nat) (cs' : List T) (hn : n - m = n') (hc : (cs.drop (m * sz)).take ((n - m) * sz) = cs') (hK : K (.c (.row n' sz cs')) hp) (hz : z = (m : Int) := by exact rfl) (hL : TabOk P L := by exact tok) (hx : ρ x = .c (.row n sz cs) := by exact rfl) (hy : ρ y = .c (.lit (.int k z)) := by exact rfl) (ht : L.look t = some ti := by exact rfl) (hd : ti.d = .slice el := by exact rfl) (hte : L.look el = some te := by exact rfl) (hsz : te.size = sz := by exact rfl) :
    LO P F ⟨d, .slice t x (some y) none none, ty, pos, aft, g⟩ ρ hp K :=
  lo_part_lo hL m hm hx hy hz ht hd hte hsz (by rw [hn] at hc ⊢; rw [hc]; exact hK)
theorem yall_len (l : List Y) : (Y.all l).length = l.length * 3 := by rw [Y.all_eq]; exact len_flat Y.ts_len l
theorem ytail (a : Y) (r : List Y) : ((Y.all (a :: r)).drop (1 * 3)).take (((a :: r).length - 1) * 3) = Y.all r := by
  have h : (Y.all (a :: r)).drop (1 * 3) = Y.all r := by
    obtain ⟨k, n, l⟩ := a
    rfl
  rw [h, List.take_of_length_le (by rw [yall_len]; simp)]
end Go.Proofs.YtllgibfmddihgaaDoor
namespace Go.Proofs.YtllgibfmddihgaaDoor
open Go.RowKit
set_option maxRecDepth 100000 in
set_option maxHeartbeats 1000000 in
theorem kindCopy_af (v : Y) : v.mass ≤ 1048576 → AF Tryd.prog 36 [v.t] (· = v.t) := by
  induction v using Y.ind with
  | h k t l ih =>
    intro hm
    rw [Y.mass, Y.masses_sum] at hm
    have hll : l.length ≤ 1048576 := by have := len_sum' Y.mass Y.mass_pos l; omega
    have ih' : ∀ x ∈ l, AF Tryd.prog 36 [x.t] (· = x.t) := fun x hx => ih x hx (by have := sum_mem' Y.mass hx; omega)
    clear ih hm
    refine af_enter tok Tryd.func36 Tryd.ntmps36 Tryd.results36 rfl (by kernel_rfl) rfl rfl fun F hX => ?_
    repeat (first | refine gG ?_ | refine zN1 (fun hlen => ?_) | refine zN2 (fun hlen => ?_) | refine zAl (fun _ => ?_) | refine zBx (fun _ => ?_) | refine zAp (fun _ => ?_))
    rename_i b1 b2
    refine x_own 3 64 3 rfl rfl rfl rfl rfl ?_
    refine x_loop [3, 5, 9, 10, 11, 12, 13, 14, 15, 16, 17, 18] (fun y : Nat × Value => [(9, .c (.lit (.int .i64 (y.1 : Nat)))), (3, .own 2 y.2)]) (fun y => [.box b1 64 [.c (.lit (.int .i64 k)), .c (.lit (.string t)), .c (Y.row l)], .box b2 64 [.c (.lit (.int .i64 0)), .c (.lit (.string ⟨#[]⟩)), .c (.lit (.slice none 0 0))], .row y.2 64 3 (l.take y.1).length (Y.all (l.take y.1))]) (fun y => y.1 ≤ l.length) (fun y => l.length - y.1) (0, .slice none 0 0) (Nat.zero_le _) ⟨rfl, rfl, trivial⟩ rfl ?_
    rintro ⟨j, u⟩ hj
    dsimp only at hj ⊢
    repeat (first | refine gG ?_ | refine zN1 (fun hlen => ?_) | refine zN2 (fun hlen => ?_) | refine zAl (fun _ => ?_) | refine zBx (fun _ => ?_) | refine zAp (fun _ => ?_))
    refine x_cond rfl (fun h => ?_) (fun h => ?_)
    · have hj' : j < l.length := by simpa using h
      obtain ⟨a, ha⟩ := nth hj'
      have hca := ih' a (List.mem_of_getElem? ha)
      have hat := Y.at ha
      have hl1 : (l.take (j + 1)).length = (l.take j).length + 1 := by rw [List.length_take, List.length_take]; omega
      have hc1 : Y.all (l.take (j + 1)) = Y.all (l.take j) ++ a.ts := by rw [List.take_add_one, ha, Y.all_app]; simp [Y.all]
      have hlt : (l.take j).length ≤ 1048576 := by rw [List.length_take]; omega
      clear h ha ih'
      obtain ⟨ka, ta, la⟩ := a
      repeat (first | refine gG ?_ | refine zN1 (fun hlen => ?_) | refine zN2 (fun hlen => ?_) | refine zAl (fun _ => ?_) | refine zBx (fun _ => ?_) | refine zAp (fun _ => ?_))
      refine zIx (j) (hj') ?_
      repeat (first | refine gG ?_ | refine zN1 (fun hlen => ?_) | refine zN2 (fun hlen => ?_) | refine zAl (fun _ => ?_) | refine zBx (fun _ => ?_) | refine zAp (fun _ => ?_))
      refine zEl (hat) (Y.ts_len _) ?_
      repeat (first | refine gG ?_ | refine zN1 (fun hlen => ?_) | refine zN2 (fun hlen => ?_) | refine zAl (fun _ => ?_) | refine zBx (fun _ => ?_) | refine zAp (fun _ => ?_))
      refine zCall (hca) ?_
      rintro _ rfl
      clear hca
      repeat (first | refine gG ?_ | refine zN1 (fun hlen => ?_) | refine zN2 (fun hlen => ?_) | refine zAl (fun _ => ?_) | refine zBx (fun _ => ?_) | refine zAp (fun _ => ?_))
      exact ⟨(j + 1, _), hj', by simp only; omega, x_wkd 3 ⟨rfl, rfl, trivial⟩ (by simp only [hl1, hc1]; rfl) (by repeat (first | exact ag_refl | refine ag_upd rfl ?_ | refine ag_at rfl rfl ?_))⟩
    · have hj' : j = l.length := by
        have : ¬ j < l.length := by simpa using h
        omega
      subst hj'
      clear h ih'
      rw [List.take_length]
      repeat (first | refine gG ?_ | refine zN1 (fun hlen => ?_) | refine zN2 (fun hlen => ?_) | refine zAl (fun _ => ?_) | refine zBx (fun _ => ?_) | refine zAp (fun _ => ?_))
      first | refine zR ?_ | refine zQ ?_
      rfl
end Go.Proofs.YtllgibfmddihgaaDoor
namespace Go.Proofs.YtllgibfmddihgaaDoor
open Go.RowKit
/-- the type that a variable stands for -/
def hitB (ns : List ByteArray) (n : Nat) (k : Int) (t : ByteArray) : Bool := decide (k = 5) && (decide (0 ≤ posOf t ns) && decide (posOf t ns < (n : Int)))
mutual
def Y.put (ns : List ByteArray) (tl : List Y) : Y → Y
  | .mk k t l => bif hitB ns tl.length k t then tl.getD (posOf t ns).toNat (.mk 0 ⟨#[]⟩ []) else .mk k t (Y.puts ns tl l)
def Y.puts (ns : List ByteArray) (tl : List Y) : List Y → List Y
  | [] => []
  | v :: r => v.put ns tl :: Y.puts ns tl r
end
theorem Y.puts_eq (ns : List ByteArray) (tl : List Y) : ∀ l : List Y, Y.puts ns tl l = l.map (Y.put ns tl)
  | [] => rfl
  | v :: l => by rw [Y.puts, Y.puts_eq ns tl l]; rfl
theorem Y.put_nil (v : Y) : v.put [] [] = v := by
  induction v using Y.ind with
  | h k t l ih =>
    have h1 : hitB [] ([] : List Y).length k t = false := by
      unfold hitB
      cases decide (k = 5) <;> rfl
    rw [Y.put, h1, Y.puts_eq]
    simp only [cond]
    congr 1
    exact (List.map_congr_left ih).trans (List.map_id' l)
theorem hit_some {ns : List ByteArray} {tl : List Y} {k : Int} {t : ByteArray} (h : hitB ns tl.length k t = true) : decide (k = 5) = true ∧ ∃ j : Nat, posOf t ns = (j : Int) ∧ j < tl.length := by
  unfold hitB at h
  simp only [Bool.and_eq_true, decide_eq_true_eq] at h
  obtain ⟨h1, h2, h3⟩ := h
  refine ⟨decide_eq_true h1, (posOf t ns).toNat, by omega, by omega⟩
theorem mapped_y {l : List Y} {j : Nat} {a : Y} (g : Y → Y) (h : l[j]? = some a) : ((l.take (j + 1)).map g).length = ((l.take j).map g).length + 1 ∧ Y.all ((l.take (j + 1)).map g) = Y.all ((l.take j).map g) ++ (g a).ts := by
  obtain ⟨hj, rfl⟩ := List.getElem?_eq_some_iff.1 h
  refine ⟨by simp only [List.length_map, List.length_take]; omega, ?_⟩
  rw [List.take_succ_eq_append_getElem hj, List.map_append, Y.all_app]
  simp [Y.all]
set_option maxRecDepth 100000 in
set_option maxHeartbeats 2000000 in
theorem put_af (ns : List ByteArray) (tl : List Y) (htl : ∀ v ∈ tl, v.mass ≤ 1048576) (v : Y) : v.mass ≤ 1048576 → AF Tryd.prog 33 [v.t, strRow ns, Y.row tl] (· = (v.put ns tl).t) := by
  induction v using Y.ind with
  | h k t l ih =>
    intro hm
    rw [Y.mass, Y.masses_sum] at hm
    have hll : l.length ≤ 1048576 := by have := len_sum' Y.mass Y.mass_pos l; omega
    have ih' : ∀ x ∈ l, AF Tryd.prog 33 [x.t, strRow ns, Y.row tl] (· = (x.put ns tl).t) := fun x hx => ih x hx (by have := sum_mem' Y.mass hx; omega)
    have hix := idxStr_af ns t
    rw [Y.put, Y.puts_eq]
    clear ih hm
    cases hh : hitB ns tl.length k t
    rotate_left
    · obtain ⟨d5, j, hj, hjl⟩ := hit_some hh
      obtain ⟨a, ha⟩ := nth hjl
      have hg : tl.getD j (.mk 0 ⟨#[]⟩ []) = a := by rw [List.getD_eq_getElem?_getD, ha]; rfl
      have hca := kindCopy_af a (htl a (List.mem_of_getElem? ha))
      have hat := Y.at ha
      simp only [cond]
      rw [hj, show ((j : Nat) : Int).toNat = j from rfl, hg]
      rw [hj] at hix
      have d1 : decide ((0 : Int) ≤ ((j : Nat) : Int)) = true := decide_eq_true (by omega)
      have d2 : decide (((j : Nat) : Int) < ((tl.length : Nat) : Int)) = true := decide_eq_true (by omega)
      clear hh hj hg ha ih' htl
      obtain ⟨ka, ta, la⟩ := a
      refine af_enter tok Tryd.func33 Tryd.ntmps33 Tryd.results33 rfl (by kernel_rfl) rfl rfl fun F hX => ?_
      repeat (first | refine gG ?_ | refine zN1 (fun hlen => ?_) | refine zN2 (fun hlen => ?_) | refine zAl (fun _ => ?_) | refine zBx (fun _ => ?_) | refine zAp (fun _ => ?_))
      refine zCall (hix) ?_
      rintro _ rfl
      clear hix
      repeat (first | refine gG ?_ | refine zN1 (fun hlen => ?_) | refine zN2 (fun hlen => ?_) | refine zAl (fun _ => ?_) | refine zBx (fun _ => ?_) | refine zAp (fun _ => ?_))
      refine zIx (j) (hjl) ?_
      repeat (first | refine gG ?_ | refine zN1 (fun hlen => ?_) | refine zN2 (fun hlen => ?_) | refine zAl (fun _ => ?_) | refine zBx (fun _ => ?_) | refine zAp (fun _ => ?_))
      refine zEl (hat) (Y.ts_len _) ?_
      repeat (first | refine gG ?_ | refine zN1 (fun hlen => ?_) | refine zN2 (fun hlen => ?_) | refine zAl (fun _ => ?_) | refine zBx (fun _ => ?_) | refine zAp (fun _ => ?_))
      refine zCall (hca) ?_
      rintro _ rfl
      clear hca
      repeat (first | refine gG ?_ | refine zN1 (fun hlen => ?_) | refine zN2 (fun hlen => ?_) | refine zAl (fun _ => ?_) | refine zBx (fun _ => ?_) | refine zAp (fun _ => ?_))
      first | refine zR ?_ | refine zQ ?_
      rfl
    simp only [cond]
    clear htl
    have hwalk : AF Tryd.prog 33 [(Y.mk k t l).t, strRow ns, Y.row tl] (· = (Y.mk k t (l.map (Y.put ns tl))).t) := by
      generalize hpq : posOf t ns = q at *
      cases d5 : decide (k = 5)
      · clear hix hh
        refine af_enter tok Tryd.func33 Tryd.ntmps33 Tryd.results33 rfl (by kernel_rfl) rfl rfl fun F hX => ?_
        repeat (first | refine gG ?_ | refine zN1 (fun hlen => ?_) | refine zN2 (fun hlen => ?_) | refine zAl (fun _ => ?_) | refine zBx (fun _ => ?_) | refine zAp (fun _ => ?_))
        rename_i b1 b2
        refine x_own 8 64 3 rfl rfl rfl rfl rfl ?_
        refine x_loop [8, 10, 34, 35, 36, 37, 38, 39, 40, 41, 42, 43, 44, 45] (fun y : Nat × Value => [(34, .c (.lit (.int .i64 (y.1 : Nat)))), (8, .own 2 y.2)]) (fun y => [.box b1 64 [.c (.lit (.int .i64 k)), .c (.lit (.string t)), .c (Y.row l)], .box b2 64 [.c (.lit (.int .i64 0)), .c (.lit (.string ⟨#[]⟩)), .c (.lit (.slice none 0 0))], .row y.2 64 3 ((l.take y.1).map (Y.put ns tl)).length (Y.all ((l.take y.1).map (Y.put ns tl)))]) (fun y => y.1 ≤ l.length) (fun y => l.length - y.1) (0, .slice none 0 0) (Nat.zero_le _) ⟨rfl, rfl, trivial⟩ rfl ?_
        rintro ⟨j, u⟩ hj
        dsimp only at hj ⊢
        repeat (first | refine gG ?_ | refine zN1 (fun hlen => ?_) | refine zN2 (fun hlen => ?_) | refine zAl (fun _ => ?_) | refine zBx (fun _ => ?_) | refine zAp (fun _ => ?_))
        refine x_cond rfl (fun h => ?_) (fun h => ?_)
        · have hj' : j < l.length := by simpa using h
          obtain ⟨a, ha⟩ := nth hj'
          have hca := ih' a (List.mem_of_getElem? ha)
          have hat := Y.at ha
          obtain ⟨hl1, hc1⟩ := mapped_y (Y.put ns tl) ha
          have hlt : ((l.take j).map (Y.put ns tl)).length ≤ 1048576 := by rw [List.length_map, List.length_take]; omega
          clear h ha ih'
          generalize a.put ns tl = pa at *
          obtain ⟨ka, ta, la⟩ := a
          obtain ⟨kp, tp, lp⟩ := pa
          repeat (first | refine gG ?_ | refine zN1 (fun hlen => ?_) | refine zN2 (fun hlen => ?_) | refine zAl (fun _ => ?_) | refine zBx (fun _ => ?_) | refine zAp (fun _ => ?_))
          refine zIx (j) (hj') ?_
          repeat (first | refine gG ?_ | refine zN1 (fun hlen => ?_) | refine zN2 (fun hlen => ?_) | refine zAl (fun _ => ?_) | refine zBx (fun _ => ?_) | refine zAp (fun _ => ?_))
          refine zEl (hat) (Y.ts_len _) ?_
          repeat (first | refine gG ?_ | refine zN1 (fun hlen => ?_) | refine zN2 (fun hlen => ?_) | refine zAl (fun _ => ?_) | refine zBx (fun _ => ?_) | refine zAp (fun _ => ?_))
          refine zCall (hca) ?_
          rintro _ rfl
          clear hca
          repeat (first | refine gG ?_ | refine zN1 (fun hlen => ?_) | refine zN2 (fun hlen => ?_) | refine zAl (fun _ => ?_) | refine zBx (fun _ => ?_) | refine zAp (fun _ => ?_))
          exact ⟨(j + 1, _), hj', by simp only; omega, x_wkd 3 ⟨rfl, rfl, trivial⟩ (by simp only [hl1, hc1]; rfl) (by repeat (first | exact ag_refl | refine ag_upd rfl ?_ | refine ag_at rfl rfl ?_))⟩
        · have hj' : j = l.length := by
            have : ¬ j < l.length := by simpa using h
            omega
          subst hj'
          clear h ih'
          rw [List.take_length]
          repeat (first | refine gG ?_ | refine zN1 (fun hlen => ?_) | refine zN2 (fun hlen => ?_) | refine zAl (fun _ => ?_) | refine zBx (fun _ => ?_) | refine zAp (fun _ => ?_))
          first | refine zR ?_ | refine zQ ?_
          rfl
      · unfold hitB at hh
        rw [hpq, d5, Bool.true_and] at hh
        cases d1 : decide ((0 : Int) ≤ q)
        · clear hh
          refine af_enter tok Tryd.func33 Tryd.ntmps33 Tryd.results33 rfl (by kernel_rfl) rfl rfl fun F hX => ?_
          repeat (first | refine gG ?_ | refine zN1 (fun hlen => ?_) | refine zN2 (fun hlen => ?_) | refine zAl (fun _ => ?_) | refine zBx (fun _ => ?_) | refine zAp (fun _ => ?_))
          rename_i b1 b2
          refine zCall (hix) ?_
          rintro _ rfl
          clear hix
          repeat (first | refine gG ?_ | refine zN1 (fun hlen => ?_) | refine zN2 (fun hlen => ?_) | refine zAl (fun _ => ?_) | refine zBx (fun _ => ?_) | refine zAp (fun _ => ?_))
          refine x_own 8 64 3 rfl rfl rfl rfl rfl ?_
          refine x_loop [8, 10, 34, 35, 36, 37, 38, 39, 40, 41, 42, 43, 44, 45] (fun y : Nat × Value => [(34, .c (.lit (.int .i64 (y.1 : Nat)))), (8, .own 2 y.2)]) (fun y => [.box b1 64 [.c (.lit (.int .i64 k)), .c (.lit (.string t)), .c (Y.row l)], .box b2 64 [.c (.lit (.int .i64 0)), .c (.lit (.string ⟨#[]⟩)), .c (.lit (.slice none 0 0))], .row y.2 64 3 ((l.take y.1).map (Y.put ns tl)).length (Y.all ((l.take y.1).map (Y.put ns tl)))]) (fun y => y.1 ≤ l.length) (fun y => l.length - y.1) (0, .slice none 0 0) (Nat.zero_le _) ⟨rfl, rfl, trivial⟩ rfl ?_
          rintro ⟨j, u⟩ hj
          dsimp only at hj ⊢
          repeat (first | refine gG ?_ | refine zN1 (fun hlen => ?_) | refine zN2 (fun hlen => ?_) | refine zAl (fun _ => ?_) | refine zBx (fun _ => ?_) | refine zAp (fun _ => ?_))
          refine x_cond rfl (fun h => ?_) (fun h => ?_)
          · have hj' : j < l.length := by simpa using h
            obtain ⟨a, ha⟩ := nth hj'
            have hca := ih' a (List.mem_of_getElem? ha)
            have hat := Y.at ha
            obtain ⟨hl1, hc1⟩ := mapped_y (Y.put ns tl) ha
            have hlt : ((l.take j).map (Y.put ns tl)).length ≤ 1048576 := by rw [List.length_map, List.length_take]; omega
            clear h ha ih'
            generalize a.put ns tl = pa at *
            obtain ⟨ka, ta, la⟩ := a
            obtain ⟨kp, tp, lp⟩ := pa
            repeat (first | refine gG ?_ | refine zN1 (fun hlen => ?_) | refine zN2 (fun hlen => ?_) | refine zAl (fun _ => ?_) | refine zBx (fun _ => ?_) | refine zAp (fun _ => ?_))
            refine zIx (j) (hj') ?_
            repeat (first | refine gG ?_ | refine zN1 (fun hlen => ?_) | refine zN2 (fun hlen => ?_) | refine zAl (fun _ => ?_) | refine zBx (fun _ => ?_) | refine zAp (fun _ => ?_))
            refine zEl (hat) (Y.ts_len _) ?_
            repeat (first | refine gG ?_ | refine zN1 (fun hlen => ?_) | refine zN2 (fun hlen => ?_) | refine zAl (fun _ => ?_) | refine zBx (fun _ => ?_) | refine zAp (fun _ => ?_))
            refine zCall (hca) ?_
            rintro _ rfl
            clear hca
            repeat (first | refine gG ?_ | refine zN1 (fun hlen => ?_) | refine zN2 (fun hlen => ?_) | refine zAl (fun _ => ?_) | refine zBx (fun _ => ?_) | refine zAp (fun _ => ?_))
            exact ⟨(j + 1, _), hj', by simp only; omega, x_wkd 3 ⟨rfl, rfl, trivial⟩ (by simp only [hl1, hc1]; rfl) (by repeat (first | exact ag_refl | refine ag_upd rfl ?_ | refine ag_at rfl rfl ?_))⟩
          · have hj' : j = l.length := by
              have : ¬ j < l.length := by simpa using h
              omega
            subst hj'
            clear h ih'
            rw [List.take_length]
            repeat (first | refine gG ?_ | refine zN1 (fun hlen => ?_) | refine zN2 (fun hlen => ?_) | refine zAl (fun _ => ?_) | refine zBx (fun _ => ?_) | refine zAp (fun _ => ?_))
            first | refine zR ?_ | refine zQ ?_
            rfl
        · rw [d1, Bool.true_and] at hh
          refine af_enter tok Tryd.func33 Tryd.ntmps33 Tryd.results33 rfl (by kernel_rfl) rfl rfl fun F hX => ?_
          repeat (first | refine gG ?_ | refine zN1 (fun hlen => ?_) | refine zN2 (fun hlen => ?_) | refine zAl (fun _ => ?_) | refine zBx (fun _ => ?_) | refine zAp (fun _ => ?_))
          rename_i b1 b2
          refine zCall (hix) ?_
          rintro _ rfl
          clear hix
          repeat (first | refine gG ?_ | refine zN1 (fun hlen => ?_) | refine zN2 (fun hlen => ?_) | refine zAl (fun _ => ?_) | refine zBx (fun _ => ?_) | refine zAp (fun _ => ?_))
          refine x_own 8 64 3 rfl rfl rfl rfl rfl ?_
          refine x_loop [8, 10, 34, 35, 36, 37, 38, 39, 40, 41, 42, 43, 44, 45] (fun y : Nat × Value => [(34, .c (.lit (.int .i64 (y.1 : Nat)))), (8, .own 2 y.2)]) (fun y => [.box b1 64 [.c (.lit (.int .i64 k)), .c (.lit (.string t)), .c (Y.row l)], .box b2 64 [.c (.lit (.int .i64 0)), .c (.lit (.string ⟨#[]⟩)), .c (.lit (.slice none 0 0))], .row y.2 64 3 ((l.take y.1).map (Y.put ns tl)).length (Y.all ((l.take y.1).map (Y.put ns tl)))]) (fun y => y.1 ≤ l.length) (fun y => l.length - y.1) (0, .slice none 0 0) (Nat.zero_le _) ⟨rfl, rfl, trivial⟩ rfl ?_
          rintro ⟨j, u⟩ hj
          dsimp only at hj ⊢
          repeat (first | refine gG ?_ | refine zN1 (fun hlen => ?_) | refine zN2 (fun hlen => ?_) | refine zAl (fun _ => ?_) | refine zBx (fun _ => ?_) | refine zAp (fun _ => ?_))
          refine x_cond rfl (fun h => ?_) (fun h => ?_)
          · have hj' : j < l.length := by simpa using h
            obtain ⟨a, ha⟩ := nth hj'
            have hca := ih' a (List.mem_of_getElem? ha)
            have hat := Y.at ha
            obtain ⟨hl1, hc1⟩ := mapped_y (Y.put ns tl) ha
            have hlt : ((l.take j).map (Y.put ns tl)).length ≤ 1048576 := by rw [List.length_map, List.length_take]; omega
            clear h ha ih'
            generalize a.put ns tl = pa at *
            obtain ⟨ka, ta, la⟩ := a
            obtain ⟨kp, tp, lp⟩ := pa
            repeat (first | refine gG ?_ | refine zN1 (fun hlen => ?_) | refine zN2 (fun hlen => ?_) | refine zAl (fun _ => ?_) | refine zBx (fun _ => ?_) | refine zAp (fun _ => ?_))
            refine zIx (j) (hj') ?_
            repeat (first | refine gG ?_ | refine zN1 (fun hlen => ?_) | refine zN2 (fun hlen => ?_) | refine zAl (fun _ => ?_) | refine zBx (fun _ => ?_) | refine zAp (fun _ => ?_))
            refine zEl (hat) (Y.ts_len _) ?_
            repeat (first | refine gG ?_ | refine zN1 (fun hlen => ?_) | refine zN2 (fun hlen => ?_) | refine zAl (fun _ => ?_) | refine zBx (fun _ => ?_) | refine zAp (fun _ => ?_))
            refine zCall (hca) ?_
            rintro _ rfl
            clear hca
            repeat (first | refine gG ?_ | refine zN1 (fun hlen => ?_) | refine zN2 (fun hlen => ?_) | refine zAl (fun _ => ?_) | refine zBx (fun _ => ?_) | refine zAp (fun _ => ?_))
            exact ⟨(j + 1, _), hj', by simp only; omega, x_wkd 3 ⟨rfl, rfl, trivial⟩ (by simp only [hl1, hc1]; rfl) (by repeat (first | exact ag_refl | refine ag_upd rfl ?_ | refine ag_at rfl rfl ?_))⟩
          · have hj' : j = l.length := by
              have : ¬ j < l.length := by simpa using h
              omega
            subst hj'
            clear h ih'
            rw [List.take_length]
            repeat (first | refine gG ?_ | refine zN1 (fun hlen => ?_) | refine zN2 (fun hlen => ?_) | refine zAl (fun _ => ?_) | refine zBx (fun _ => ?_) | refine zAp (fun _ => ?_))
            first | refine zR ?_ | refine zQ ?_
            rfl
    exact hwalk
set_option maxRecDepth 100000 in
set_option maxHeartbeats 2000000 in
theorem swapOf_af (ns : List ByteArray) (tl : List Y) (hcp : ∀ a ∈ tl, AF Tryd.prog 35 [a.t, strRow [], Y.row []] (· = a.t)) (v : Y) : v.mass ≤ 1048576 → AF Tryd.prog 35 [v.t, strRow ns, Y.row tl] (· = (v.put ns tl).t) := by
  induction v using Y.ind with
  | h k t l ih =>
    intro hm
    rw [Y.mass, Y.masses_sum] at hm
    have hll : l.length ≤ 1048576 := by have := len_sum' Y.mass Y.mass_pos l; omega
    have ih' : ∀ x ∈ l, AF Tryd.prog 35 [x.t, strRow ns, Y.row tl] (· = (x.put ns tl).t) := fun x hx => ih x hx (by have := sum_mem' Y.mass hx; omega)
    have hix := idxStr_af ns t
    rw [Y.put, Y.puts_eq]
    clear ih hm
    cases hh : hitB ns tl.length k t
    rotate_left
    · obtain ⟨d5, j, hj, hjl⟩ := hit_some hh
      obtain ⟨a, ha⟩ := nth hjl
      have hg : tl.getD j (.mk 0 ⟨#[]⟩ []) = a := by rw [List.getD_eq_getElem?_getD, ha]; rfl
      have hca := hcp a (List.mem_of_getElem? ha)
      have hat := Y.at ha
      simp only [cond]
      rw [hj, show ((j : Nat) : Int).toNat = j from rfl, hg]
      rw [hj] at hix
      have d1 : decide ((0 : Int) ≤ ((j : Nat) : Int)) = true := decide_eq_true (by omega)
      have d2 : decide (((j : Nat) : Int) < ((tl.length : Nat) : Int)) = true := decide_eq_true (by omega)
      clear hh hj hg ha ih' hcp
      obtain ⟨ka, ta, la⟩ := a
      refine af_enter tok Tryd.func35 Tryd.ntmps35 Tryd.results35 rfl (by kernel_rfl) rfl rfl fun F hX => ?_
      repeat (first | refine gG ?_ | refine zN1 (fun hlen => ?_) | refine zN2 (fun hlen => ?_) | refine zAl (fun _ => ?_) | refine zBf ?_ | refine zAp (fun _ => ?_))
      refine zCall (hix) ?_
      rintro _ rfl
      clear hix
      repeat (first | refine gG ?_ | refine zN1 (fun hlen => ?_) | refine zN2 (fun hlen => ?_) | refine zAl (fun _ => ?_) | refine zBx (fun _ => ?_) | refine zAp (fun _ => ?_))
      refine zIx (j) (hjl) ?_
      repeat (first | refine gG ?_ | refine zN1 (fun hlen => ?_) | refine zN2 (fun hlen => ?_) | refine zAl (fun _ => ?_) | refine zBx (fun _ => ?_) | refine zAp (fun _ => ?_))
      refine zEl (hat) (Y.ts_len _) ?_
      repeat (first | refine gG ?_ | refine zN1 (fun hlen => ?_) | refine zN2 (fun hlen => ?_) | refine zAl (fun _ => ?_) | refine zBx (fun _ => ?_) | refine zAp (fun _ => ?_))
      refine zCall (hca) ?_
      rintro _ rfl
      clear hca
      repeat (first | refine gG ?_ | refine zN1 (fun hlen => ?_) | refine zN2 (fun hlen => ?_) | refine zAl (fun _ => ?_) | refine zBx (fun _ => ?_) | refine zAp (fun _ => ?_))
      first | refine zR ?_ | refine zQ ?_
      rfl
    simp only [cond]
    clear hcp
    have hwalk : AF Tryd.prog 35 [(Y.mk k t l).t, strRow ns, Y.row tl] (· = (Y.mk k t (l.map (Y.put ns tl))).t) := by
      generalize hpq : posOf t ns = q at *
      cases d5 : decide (k = 5)
      · clear hh
        refine af_enter tok Tryd.func35 Tryd.ntmps35 Tryd.results35 rfl (by kernel_rfl) rfl rfl fun F hX => ?_
        repeat (first | refine gG ?_ | refine zN1 (fun hlen => ?_) | refine zN2 (fun hlen => ?_) | refine zAl (fun _ => ?_) | refine zBf ?_ | refine zAp (fun _ => ?_))
        rename_i b1
        refine zCall (hix) ?_
        rintro _ rfl
        clear hix
        repeat (first | refine gG ?_ | refine zN1 (fun hlen => ?_) | refine zN2 (fun hlen => ?_) | refine zAl (fun _ => ?_) | refine zBx (fun _ => ?_) | refine zAp (fun _ => ?_))
        rename_i b2
        refine x_own_cell 1 2 64 3 rfl rfl rfl rfl rfl rfl ?_
        refine x_loop [10, 41, 42, 43, 44, 45, 46, 47, 48, 49, 50, 51, 52, 53, 54] (fun y : Nat × Value => [(41, .c (.lit (.int .i64 (y.1 : Nat))))]) (fun y => [.box b1 64 [.c (.lit (.int .i64 0)), .c (.lit (.string ⟨#[]⟩)), .c (.lit (.slice none 0 0))], .box b2 64 [.c (.lit (.int .i64 k)), .c (.lit (.string t)), .own 2 y.2], .row y.2 64 3 ((l.take y.1).map (Y.put ns tl)).length (Y.all ((l.take y.1).map (Y.put ns tl)))]) (fun y => y.1 ≤ l.length) (fun y => l.length - y.1) (0, .slice none 0 0) (Nat.zero_le _) ⟨rfl, trivial⟩ rfl ?_
        rintro ⟨j, u⟩ hj
        dsimp only at hj ⊢
        repeat (first | refine gG ?_ | refine zN1 (fun hlen => ?_) | refine zN2 (fun hlen => ?_) | refine zAl (fun _ => ?_) | refine zBx (fun _ => ?_) | refine zAp (fun _ => ?_))
        refine x_cond rfl (fun h => ?_) (fun h => ?_)
        · have hj' : j < l.length := by simpa using h
          obtain ⟨a, ha⟩ := nth hj'
          have hca := ih' a (List.mem_of_getElem? ha)
          have hat := Y.at ha
          obtain ⟨hl1, hc1⟩ := mapped_y (Y.put ns tl) ha
          have hlt : ((l.take j).map (Y.put ns tl)).length ≤ 1048576 := by rw [List.length_map, List.length_take]; omega
          clear h ha ih'
          generalize a.put ns tl = pa at *
          obtain ⟨ka, ta, la⟩ := a
          obtain ⟨kp, tp, lp⟩ := pa
          repeat (first | refine gG ?_ | refine zN1 (fun hlen => ?_) | refine zN2 (fun hlen => ?_) | refine zAl (fun _ => ?_) | refine zBx (fun _ => ?_) | refine zAp (fun _ => ?_))
          refine zIx (j) (hj') ?_
          repeat (first | refine gG ?_ | refine zN1 (fun hlen => ?_) | refine zN2 (fun hlen => ?_) | refine zAl (fun _ => ?_) | refine zBx (fun _ => ?_) | refine zAp (fun _ => ?_))
          refine zEl (hat) (Y.ts_len _) ?_
          repeat (first | refine gG ?_ | refine zN1 (fun hlen => ?_) | refine zN2 (fun hlen => ?_) | refine zAl (fun _ => ?_) | refine zBx (fun _ => ?_) | refine zAp (fun _ => ?_))
          refine ac_draw [0, 1, 1, 1, 1, 1, 1, 2, 0, 2] [0, 1, 2, 3, 4, 5, 6, 7, 8, 9] (by kernel_rfl) (by kernel_rfl) ?_
          refine gW ?_
          apply w_q; (focus exact rfl); (focus exact rfl); focus (intro _; (refine zCall hca ?_; rintro _ rfl); exact det_refl)
          refine gW ?_
          apply w_l; (focus exact rfl); (focus exact rfl); (first | (refine zkL ?_; first | refine zL1 ?_ | refine zL2 ?_ | refine zL3 ?_ | refine zLp ?_) | refine zM ?_ | (refine zkF ?_; first | refine zF1 ?_ | refine zF2 ?_ | refine zF3 ?_) | refine zA ?_ | (refine zkB ?_; first | refine zC5 ?_ | refine zC6 ?_ | refine zC1 ?_ | refine zC2 ?_ | refine zC3 ?_ | refine zC4 ?_ | refine zS5 ?_ | refine zS6 ?_ | refine zS1 ?_ | refine zS2 ?_ | refine zS3 ?_ | refine zS4 ?_ | refine zInc ?_ | refine zQ1 ?_ | refine zQ2 ?_ | refine zQ3 ?_ | refine zQ4 ?_ | refine zQ5 ?_ | refine zQ6 ?_) | (refine zkI ?_; first | refine zN1 (fun hlen => ?_) | refine zN2 (fun hlen => ?_) | refine zN3 ?_ | refine zN4 ?_ | refine zAp (fun _ => ?_)) | refine zS ?_ | refine zAl (fun _ => ?_) | refine zBx (fun _ => ?_) | refine zPt ?_ | refine zPf ?_ | refine zE ?_ | refine zEA ?_ | refine zNot ?_ | refine zBd ?_ | refine zBs ?_ | refine zFn ?_ | refine zK1 ?_ | refine zK2 ?_)
          refine gW ?_
          apply w_l; (focus exact rfl); (focus exact rfl); (first | (refine zkL ?_; first | refine zL1 ?_ | refine zL2 ?_ | refine zL3 ?_ | refine zLp ?_) | refine zM ?_ | (refine zkF ?_; first | refine zF1 ?_ | refine zF2 ?_ | refine zF3 ?_) | refine zA ?_ | (refine zkB ?_; first | refine zC5 ?_ | refine zC6 ?_ | refine zC1 ?_ | refine zC2 ?_ | refine zC3 ?_ | refine zC4 ?_ | refine zS5 ?_ | refine zS6 ?_ | refine zS1 ?_ | refine zS2 ?_ | refine zS3 ?_ | refine zS4 ?_ | refine zInc ?_ | refine zQ1 ?_ | refine zQ2 ?_ | refine zQ3 ?_ | refine zQ4 ?_ | refine zQ5 ?_ | refine zQ6 ?_) | (refine zkI ?_; first | refine zN1 (fun hlen => ?_) | refine zN2 (fun hlen => ?_) | refine zN3 ?_ | refine zN4 ?_ | refine zAp (fun _ => ?_)) | refine zS ?_ | refine zAl (fun _ => ?_) | refine zBx (fun _ => ?_) | refine zPt ?_ | refine zPf ?_ | refine zE ?_ | refine zEA ?_ | refine zNot ?_ | refine zBd ?_ | refine zBs ?_ | refine zFn ?_ | refine zK1 ?_ | refine zK2 ?_)
          refine w_nil ?_
          clear hca
          repeat (first | refine gG ?_ | refine zN1 (fun hlen => ?_) | refine zN2 (fun hlen => ?_) | refine zAl (fun _ => ?_) | refine zBx (fun _ => ?_) | refine zAp (fun _ => ?_))
          exact ⟨(j + 1, _), hj', by simp only; omega, x_wkd 3 ⟨rfl, trivial⟩ (by simp only [hl1, hc1]; rfl) (by repeat (first | exact ag_refl | refine ag_upd rfl ?_ | refine ag_at rfl rfl ?_))⟩
        · have hj' : j = l.length := by
            have : ¬ j < l.length := by simpa using h
            omega
          subst hj'
          clear h ih'
          rw [List.take_length]
          repeat (first | refine gG ?_ | refine zN1 (fun hlen => ?_) | refine zN2 (fun hlen => ?_) | refine zAl (fun _ => ?_) | refine zBx (fun _ => ?_) | refine zAp (fun _ => ?_))
          first | refine zR ?_ | refine zQ ?_
          rfl
      · unfold hitB at hh
        rw [hpq, d5, Bool.true_and] at hh
        cases d1 : decide ((0 : Int) ≤ q)
        · clear hh
          refine af_enter tok Tryd.func35 Tryd.ntmps35 Tryd.results35 rfl (by kernel_rfl) rfl rfl fun F hX => ?_
          repeat (first | refine gG ?_ | refine zN1 (fun hlen => ?_) | refine zN2 (fun hlen => ?_) | refine zAl (fun _ => ?_) | refine zBf ?_ | refine zAp (fun _ => ?_))
          rename_i b1
          refine zCall (hix) ?_
          rintro _ rfl
          clear hix
          repeat (first | refine gG ?_ | refine zN1 (fun hlen => ?_) | refine zN2 (fun hlen => ?_) | refine zAl (fun _ => ?_) | refine zBx (fun _ => ?_) | refine zAp (fun _ => ?_))
          rename_i b2
          refine x_own_cell 1 2 64 3 rfl rfl rfl rfl rfl rfl ?_
          refine x_loop [10, 41, 42, 43, 44, 45, 46, 47, 48, 49, 50, 51, 52, 53, 54] (fun y : Nat × Value => [(41, .c (.lit (.int .i64 (y.1 : Nat))))]) (fun y => [.box b1 64 [.c (.lit (.int .i64 0)), .c (.lit (.string ⟨#[]⟩)), .c (.lit (.slice none 0 0))], .box b2 64 [.c (.lit (.int .i64 k)), .c (.lit (.string t)), .own 2 y.2], .row y.2 64 3 ((l.take y.1).map (Y.put ns tl)).length (Y.all ((l.take y.1).map (Y.put ns tl)))]) (fun y => y.1 ≤ l.length) (fun y => l.length - y.1) (0, .slice none 0 0) (Nat.zero_le _) ⟨rfl, trivial⟩ rfl ?_
          rintro ⟨j, u⟩ hj
          dsimp only at hj ⊢
          repeat (first | refine gG ?_ | refine zN1 (fun hlen => ?_) | refine zN2 (fun hlen => ?_) | refine zAl (fun _ => ?_) | refine zBx (fun _ => ?_) | refine zAp (fun _ => ?_))
          refine x_cond rfl (fun h => ?_) (fun h => ?_)
          · have hj' : j < l.length := by simpa using h
            obtain ⟨a, ha⟩ := nth hj'
            have hca := ih' a (List.mem_of_getElem? ha)
            have hat := Y.at ha
            obtain ⟨hl1, hc1⟩ := mapped_y (Y.put ns tl) ha
            have hlt : ((l.take j).map (Y.put ns tl)).length ≤ 1048576 := by rw [List.length_map, List.length_take]; omega
            clear h ha ih'
            generalize a.put ns tl = pa at *
            obtain ⟨ka, ta, la⟩ := a
            obtain ⟨kp, tp, lp⟩ := pa
            repeat (first | refine gG ?_ | refine zN1 (fun hlen => ?_) | refine zN2 (fun hlen => ?_) | refine zAl (fun _ => ?_) | refine zBx (fun _ => ?_) | refine zAp (fun _ => ?_))
            refine zIx (j) (hj') ?_
            repeat (first | refine gG ?_ | refine zN1 (fun hlen => ?_) | refine zN2 (fun hlen => ?_) | refine zAl (fun _ => ?_) | refine zBx (fun _ => ?_) | refine zAp (fun _ => ?_))
            refine zEl (hat) (Y.ts_len _) ?_
            repeat (first | refine gG ?_ | refine zN1 (fun hlen => ?_) | refine zN2 (fun hlen => ?_) | refine zAl (fun _ => ?_) | refine zBx (fun _ => ?_) | refine zAp (fun _ => ?_))
            refine ac_draw [0, 1, 1, 1, 1, 1, 1, 2, 0, 2] [0, 1, 2, 3, 4, 5, 6, 7, 8, 9] (by kernel_rfl) (by kernel_rfl) ?_
            refine gW ?_
            apply w_q; (focus exact rfl); (focus exact rfl); focus (intro _; (refine zCall hca ?_; rintro _ rfl); exact det_refl)
            refine gW ?_
            apply w_l; (focus exact rfl); (focus exact rfl); (first | (refine zkL ?_; first | refine zL1 ?_ | refine zL2 ?_ | refine zL3 ?_ | refine zLp ?_) | refine zM ?_ | (refine zkF ?_; first | refine zF1 ?_ | refine zF2 ?_ | refine zF3 ?_) | refine zA ?_ | (refine zkB ?_; first | refine zC5 ?_ | refine zC6 ?_ | refine zC1 ?_ | refine zC2 ?_ | refine zC3 ?_ | refine zC4 ?_ | refine zS5 ?_ | refine zS6 ?_ | refine zS1 ?_ | refine zS2 ?_ | refine zS3 ?_ | refine zS4 ?_ | refine zInc ?_ | refine zQ1 ?_ | refine zQ2 ?_ | refine zQ3 ?_ | refine zQ4 ?_ | refine zQ5 ?_ | refine zQ6 ?_) | (refine zkI ?_; first | refine zN1 (fun hlen => ?_) | refine zN2 (fun hlen => ?_) | refine zN3 ?_ | refine zN4 ?_ | refine zAp (fun _ => ?_)) | refine zS ?_ | refine zAl (fun _ => ?_) | refine zBx (fun _ => ?_) | refine zPt ?_ | refine zPf ?_ | refine zE ?_ | refine zEA ?_ | refine zNot ?_ | refine zBd ?_ | refine zBs ?_ | refine zFn ?_ | refine zK1 ?_ | refine zK2 ?_)
            refine gW ?_
            apply w_l; (focus exact rfl); (focus exact rfl); (first | (refine zkL ?_; first | refine zL1 ?_ | refine zL2 ?_ | refine zL3 ?_ | refine zLp ?_) | refine zM ?_ | (refine zkF ?_; first | refine zF1 ?_ | refine zF2 ?_ | refine zF3 ?_) | refine zA ?_ | (refine zkB ?_; first | refine zC5 ?_ | refine zC6 ?_ | refine zC1 ?_ | refine zC2 ?_ | refine zC3 ?_ | refine zC4 ?_ | refine zS5 ?_ | refine zS6 ?_ | refine zS1 ?_ | refine zS2 ?_ | refine zS3 ?_ | refine zS4 ?_ | refine zInc ?_ | refine zQ1 ?_ | refine zQ2 ?_ | refine zQ3 ?_ | refine zQ4 ?_ | refine zQ5 ?_ | refine zQ6 ?_) | (refine zkI ?_; first | refine zN1 (fun hlen => ?_) | refine zN2 (fun hlen => ?_) | refine zN3 ?_ | refine zN4 ?_ | refine zAp (fun _ => ?_)) | refine zS ?_ | refine zAl (fun _ => ?_) | refine zBx (fun _ => ?_) | refine zPt ?_ | refine zPf ?_ | refine zE ?_ | refine zEA ?_ | refine zNot ?_ | refine zBd ?_ | refine zBs ?_ | refine zFn ?_ | refine zK1 ?_ | refine zK2 ?_)
            refine w_nil ?_
            clear hca
            repeat (first | refine gG ?_ | refine zN1 (fun hlen => ?_) | refine zN2 (fun hlen => ?_) | refine zAl (fun _ => ?_) | refine zBx (fun _ => ?_) | refine zAp (fun _ => ?_))
            exact ⟨(j + 1, _), hj', by simp only; omega, x_wkd 3 ⟨rfl, trivial⟩ (by simp only [hl1, hc1]; rfl) (by repeat (first | exact ag_refl | refine ag_upd rfl ?_ | refine ag_at rfl rfl ?_))⟩
          · have hj' : j = l.length := by
              have : ¬ j < l.length := by simpa using h
              omega
            subst hj'
            clear h ih'
            rw [List.take_length]
            repeat (first | refine gG ?_ | refine zN1 (fun hlen => ?_) | refine zN2 (fun hlen => ?_) | refine zAl (fun _ => ?_) | refine zBx (fun _ => ?_) | refine zAp (fun _ => ?_))
            first | refine zR ?_ | refine zQ ?_
            rfl
        · rw [d1, Bool.true_and] at hh
          refine af_enter tok Tryd.func35 Tryd.ntmps35 Tryd.results35 rfl (by kernel_rfl) rfl rfl fun F hX => ?_
          repeat (first | refine gG ?_ | refine zN1 (fun hlen => ?_) | refine zN2 (fun hlen => ?_) | refine zAl (fun _ => ?_) | refine zBf ?_ | refine zAp (fun _ => ?_))
          rename_i b1
          refine zCall (hix) ?_
          rintro _ rfl
          clear hix
          repeat (first | refine gG ?_ | refine zN1 (fun hlen => ?_) | refine zN2 (fun hlen => ?_) | refine zAl (fun _ => ?_) | refine zBx (fun _ => ?_) | refine zAp (fun _ => ?_))
          rename_i b2
          refine x_own_cell 1 2 64 3 rfl rfl rfl rfl rfl rfl ?_
          refine x_loop [10, 41, 42, 43, 44, 45, 46, 47, 48, 49, 50, 51, 52, 53, 54] (fun y : Nat × Value => [(41, .c (.lit (.int .i64 (y.1 : Nat))))]) (fun y => [.box b1 64 [.c (.lit (.int .i64 0)), .c (.lit (.string ⟨#[]⟩)), .c (.lit (.slice none 0 0))], .box b2 64 [.c (.lit (.int .i64 k)), .c (.lit (.string t)), .own 2 y.2], .row y.2 64 3 ((l.take y.1).map (Y.put ns tl)).length (Y.all ((l.take y.1).map (Y.put ns tl)))]) (fun y => y.1 ≤ l.length) (fun y => l.length - y.1) (0, .slice none 0 0) (Nat.zero_le _) ⟨rfl, trivial⟩ rfl ?_
          rintro ⟨j, u⟩ hj
          dsimp only at hj ⊢
          repeat (first | refine gG ?_ | refine zN1 (fun hlen => ?_) | refine zN2 (fun hlen => ?_) | refine zAl (fun _ => ?_) | refine zBx (fun _ => ?_) | refine zAp (fun _ => ?_))
          refine x_cond rfl (fun h => ?_) (fun h => ?_)
          · have hj' : j < l.length := by simpa using h
            obtain ⟨a, ha⟩ := nth hj'
            have hca := ih' a (List.mem_of_getElem? ha)
            have hat := Y.at ha
            obtain ⟨hl1, hc1⟩ := mapped_y (Y.put ns tl) ha
            have hlt : ((l.take j).map (Y.put ns tl)).length ≤ 1048576 := by rw [List.length_map, List.length_take]; omega
            clear h ha ih'
            generalize a.put ns tl = pa at *
            obtain ⟨ka, ta, la⟩ := a
            obtain ⟨kp, tp, lp⟩ := pa
            repeat (first | refine gG ?_ | refine zN1 (fun hlen => ?_) | refine zN2 (fun hlen => ?_) | refine zAl (fun _ => ?_) | refine zBx (fun _ => ?_) | refine zAp (fun _ => ?_))
            refine zIx (j) (hj') ?_
            repeat (first | refine gG ?_ | refine zN1 (fun hlen => ?_) | refine zN2 (fun hlen => ?_) | refine zAl (fun _ => ?_) | refine zBx (fun _ => ?_) | refine zAp (fun _ => ?_))
            refine zEl (hat) (Y.ts_len _) ?_
            repeat (first | refine gG ?_ | refine zN1 (fun hlen => ?_) | refine zN2 (fun hlen => ?_) | refine zAl (fun _ => ?_) | refine zBx (fun _ => ?_) | refine zAp (fun _ => ?_))
            refine ac_draw [0, 1, 1, 1, 1, 1, 1, 2, 0, 2] [0, 1, 2, 3, 4, 5, 6, 7, 8, 9] (by kernel_rfl) (by kernel_rfl) ?_
            refine gW ?_
            apply w_q; (focus exact rfl); (focus exact rfl); focus (intro _; (refine zCall hca ?_; rintro _ rfl); exact det_refl)
            refine gW ?_
            apply w_l; (focus exact rfl); (focus exact rfl); (first | (refine zkL ?_; first | refine zL1 ?_ | refine zL2 ?_ | refine zL3 ?_ | refine zLp ?_) | refine zM ?_ | (refine zkF ?_; first | refine zF1 ?_ | refine zF2 ?_ | refine zF3 ?_) | refine zA ?_ | (refine zkB ?_; first | refine zC5 ?_ | refine zC6 ?_ | refine zC1 ?_ | refine zC2 ?_ | refine zC3 ?_ | refine zC4 ?_ | refine zS5 ?_ | refine zS6 ?_ | refine zS1 ?_ | refine zS2 ?_ | refine zS3 ?_ | refine zS4 ?_ | refine zInc ?_ | refine zQ1 ?_ | refine zQ2 ?_ | refine zQ3 ?_ | refine zQ4 ?_ | refine zQ5 ?_ | refine zQ6 ?_) | (refine zkI ?_; first | refine zN1 (fun hlen => ?_) | refine zN2 (fun hlen => ?_) | refine zN3 ?_ | refine zN4 ?_ | refine zAp (fun _ => ?_)) | refine zS ?_ | refine zAl (fun _ => ?_) | refine zBx (fun _ => ?_) | refine zPt ?_ | refine zPf ?_ | refine zE ?_ | refine zEA ?_ | refine zNot ?_ | refine zBd ?_ | refine zBs ?_ | refine zFn ?_ | refine zK1 ?_ | refine zK2 ?_)
            refine gW ?_
            apply w_l; (focus exact rfl); (focus exact rfl); (first | (refine zkL ?_; first | refine zL1 ?_ | refine zL2 ?_ | refine zL3 ?_ | refine zLp ?_) | refine zM ?_ | (refine zkF ?_; first | refine zF1 ?_ | refine zF2 ?_ | refine zF3 ?_) | refine zA ?_ | (refine zkB ?_; first | refine zC5 ?_ | refine zC6 ?_ | refine zC1 ?_ | refine zC2 ?_ | refine zC3 ?_ | refine zC4 ?_ | refine zS5 ?_ | refine zS6 ?_ | refine zS1 ?_ | refine zS2 ?_ | refine zS3 ?_ | refine zS4 ?_ | refine zInc ?_ | refine zQ1 ?_ | refine zQ2 ?_ | refine zQ3 ?_ | refine zQ4 ?_ | refine zQ5 ?_ | refine zQ6 ?_) | (refine zkI ?_; first | refine zN1 (fun hlen => ?_) | refine zN2 (fun hlen => ?_) | refine zN3 ?_ | refine zN4 ?_ | refine zAp (fun _ => ?_)) | refine zS ?_ | refine zAl (fun _ => ?_) | refine zBx (fun _ => ?_) | refine zPt ?_ | refine zPf ?_ | refine zE ?_ | refine zEA ?_ | refine zNot ?_ | refine zBd ?_ | refine zBs ?_ | refine zFn ?_ | refine zK1 ?_ | refine zK2 ?_)
            refine w_nil ?_
            clear hca
            repeat (first | refine gG ?_ | refine zN1 (fun hlen => ?_) | refine zN2 (fun hlen => ?_) | refine zAl (fun _ => ?_) | refine zBx (fun _ => ?_) | refine zAp (fun _ => ?_))
            exact ⟨(j + 1, _), hj', by simp only; omega, x_wkd 3 ⟨rfl, trivial⟩ (by simp only [hl1, hc1]; rfl) (by repeat (first | exact ag_refl | refine ag_upd rfl ?_ | refine ag_at rfl rfl ?_))⟩
          · have hj' : j = l.length := by
              have : ¬ j < l.length := by simpa using h
              omega
            subst hj'
            clear h ih'
            rw [List.take_length]
            repeat (first | refine gG ?_ | refine zN1 (fun hlen => ?_) | refine zN2 (fun hlen => ?_) | refine zAl (fun _ => ?_) | refine zBx (fun _ => ?_) | refine zAp (fun _ => ?_))
            first | refine zR ?_ | refine zQ ?_
            rfl
    exact hwalk
theorem swapNil_af (v : Y) (hv : v.mass ≤ 1048576) : AF Tryd.prog 35 [v.t, strRow [], Y.row []] (· = v.t) := by
  have := swapOf_af [] [] (fun _ h => by cases h) v hv
  rwa [Y.put_nil] at this
theorem swap_af (ns : List ByteArray) (tl : List Y) (htl : ∀ v ∈ tl, v.mass ≤ 1048576) (v : Y) (hv : v.mass ≤ 1048576) : AF Tryd.prog 35 [v.t, strRow ns, Y.row tl] (· = (v.put ns tl).t) :=
  swapOf_af ns tl (fun a ha => swapNil_af a (htl a ha)) v hv
end Go.Proofs.YtllgibfmddihgaaDoor
