/-
  Texts of this proof, part 6: Ab33 Ab34 Ab35 Ab36 Ab37 Ab38 Ab39 Ab40 Ab41 Ab43.
-/
import Derived.Test.YtnkafjkcjpajgaaQLockAnew5
import Derived.Laws.IdiomRangeMap
import Derived.Lib.AppendZerosOnto
import Derived.Lib.MinMax
namespace Go.Proofs.Ytnkafjkcjpajgaa
open Go.RowKit
section
variable {md : Region.Mode} {ops : Array Oper} {cls : Nat → Nat}
/-- m says, bit by bit, for whom each operation waits -/
def claimB (md : Region.Mode) (ops : Array Oper) (m : List Nat) : Bool :=
  (List.range ops.size).all fun j => (List.range ops.size).all fun i => !(m.getD j 0).testBit i ||
    (match ops[j]? with
      | some oj => oj.after.any fun e => Region.binds md e && (e.on == i || (Nat.blt e.on j && (m.getD e.on 0).testBit i))
      | none => false)
theorem claim_reach {m : List Nat} (h : claimB md ops m = true) {i : Nat} (hi : i < ops.size) : ∀ (f j : Nat), j < f → j < ops.size → (m.getD j 0).testBit i = true → reachB md ops f j i = true
  | 0, _, h0, _, _ => by omega
  | f + 1, j, hf, hj, hb => by
    have h1 := List.all_eq_true.1 (List.all_eq_true.1 h j (List.mem_range.2 hj)) i (List.mem_range.2 hi)
    rw [hb] at h1
    simp only [Bool.not_true, Bool.false_or] at h1
    unfold reachB
    split at h1
    · rename_i oj hoj
      rw [hoj]
      obtain ⟨e, he, hq⟩ := Array.any_eq_true'.1 h1
      refine Array.any_eq_true'.2 ⟨e, he, ?_⟩
      simp only [Bool.and_eq_true, Bool.or_eq_true, beq_iff_eq] at hq ⊢
      refine ⟨hq.1, hq.2.imp id fun h2 => ?_⟩
      have hlt : e.on < j := by simpa using h2.1
      exact claim_reach h hi f e.on (by omega) (by omega) h2.2
    · cases h1
def freeC (ops : Array Oper) (cls : Nat → Nat) (m : List Nat) (listed : Array Bool) (i : Nat) : Bool :=
  match ops[i]? with
  | none => false
  | some oi => (List.range ops.size).all fun j => j == i || listed.getD j true || (m.getD j 0).testBit i ||
      (match ops[j]? with | some oj => oi.apart ops oj && (cls j != 2 || cls i == 0) | none => true)
theorem freeC_A {m : List Nat} (h : claimB md ops m = true) {listed : Array Bool} {i : Nat} (hf : freeC ops cls m listed i = true) : freeA md ops cls listed i = true := by
  unfold freeC at hf
  unfold freeA
  split at hf
  · cases hf
  · rename_i oi hoi
    rw [hoi]
    refine List.all_eq_true.2 fun j hj => ?_
    have h1 := List.all_eq_true.1 hf j hj
    simp only [Bool.or_eq_true] at h1 ⊢
    rcases h1 with ((h1 | h1) | h1) | h1
    · exact .inl (.inl (.inl h1))
    · exact .inl (.inl (.inr h1))
    · exact .inl (.inr (claim_reach h (Array.getElem?_eq_some_iff.1 hoi).1 _ j (List.mem_range.1 hj) (List.mem_range.1 hj) h1))
    · exact .inr h1
def ordC (md : Region.Mode) (ops : Array Oper) (cls : Nat → Nat) (m : List Nat) : List Nat → Array Bool → Bool
  | [], listed => (Region.ready md ops listed).isEmpty
  | i :: r, listed => (if 2 ≤ cls i then decide (Region.ready md ops listed = [i]) else (Region.ready md ops listed).contains i && freeC ops cls m listed i) && ordC md ops cls m r (listed.setIfInBounds i true)
theorem ordC_B {m : List Nat} (h : claimB md ops m = true) : ∀ (r : List Nat) (listed : Array Bool), ordC md ops cls m r listed = true → ordB md ops cls r listed = true
  | [], listed, ho => ho
  | i :: r, listed, ho => by
    simp only [ordC, ordB, Bool.and_eq_true] at ho ⊢
    refine ⟨?_, ordC_B h r _ ho.2⟩
    by_cases h2 : 2 ≤ cls i
    · rw [if_pos h2] at ho ⊢; exact ho.1
    · rw [if_neg h2] at ho ⊢
      have h3 := ho.1
      simp only [Bool.and_eq_true] at h3 ⊢
      exact ⟨h3.1, freeC_A h h3.2⟩
end
section
variable {P : Program} {F : Frm} {τ : Nat → AV} {hp : List Blk} {N : Nat} {Q : Exit → AS → Prop} {id : Nat} {l : List Oper}
theorem ac_drawB (m c r : List Nat) (hm : P.follows .mixedOrders = true) (hB : (claimB .any l.toArray m && (ordC .any l.toArray (clsOf c) m r (Array.replicate l.toArray.size false) && Nat.beq r.length l.length)) = true)
    (h : WO P F l.toArray N (clsOf c) (fun τ' hp' => Q .normal ⟨τ', hp', N⟩) r τ hp) : AC P F (.region id l.toArray true) Q ⟨τ, hp, N⟩ := by
  simp only [Bool.and_eq_true] at hB
  refine ac_draw c r hm ?_ h
  simp only [Bool.and_eq_true]
  exact ⟨ordC_B hB.1 _ _ hB.2.1, hB.2.2⟩
/-- of the slots only those of l are kept -/
theorem wk_keep {l : List (Nat × AV)} (hl : HasT τ l) : Wk F ⟨τ, hp, N⟩ ⟨atT (fun _ => .junk) [] l, hp, N⟩ := by
  intro M a w hr
  refine ⟨M, fun i => ?_, hr.size, hr.defers, hr.heap⟩
  have h0 := hr.tmps i
  dsimp only at h0 ⊢
  have key : ∀ (l : List (Nat × AV)) (v : AV), HasT τ l → lkp i l = some v → τ i = v := by
    intro l
    induction l with
    | nil => intro v _ h; cases h
    | cons p l ih =>
      obtain ⟨d, u⟩ := p
      intro v hh h
      unfold lkp at h
      cases hc : Nat.beq i d with
      | true =>
        rw [hc] at h
        simp only [cond_true, Option.some.injEq] at h
        rw [Nat.eq_of_beq_eq_true hc, hh.1, h]
      | false =>
        rw [hc] at h
        exact ih v hh.2 h
  unfold atT
  split
  · rename_i v hv
    rw [← key l v hl hv]
    exact h0
  · cases memB i [] <;> simp only [cond, RA]
theorem x_keep {c : Go.Code} (l : List (Nat × AV)) (hl : HasT τ l) (hq : AC P F c Q ⟨atT (fun _ => .junk) [] l, hp, N⟩) : AC P F c Q ⟨τ, hp, N⟩ := ac_wk (wk_keep hl) hq
end
section
variable {P : Program} {F : Frm} {d : Option Tmp} {ty : TypeId} {pos : String} {aft : Array Edge} {g : Option (Nat × Bool)} {ρ : Operand → AV} {hp : List Blk} {K : AV → List Blk → Prop}
/-- the sum of two counts -/
theorem zAn {t t' : TypeId} {x y : Operand} {a b : Nat} (h : K (.c (.lit (.int .i64 ((a + b : Nat) : Int)))) hp) (hx : ρ x = .c (.lit (.int .i64 (a : Nat))) := by exact rfl) (hy : ρ y = .c (.lit (.int .i64 (b : Nat))) := by exact rfl) (hb : a + b ≤ 9223372036854775807 := by first | omega | (dsimp only at *; omega)) : LO P F ⟨d, .binOp .add t x y t', ty, pos, aft, g⟩ ρ hp K :=
  lo_add hx hy (by rw [IntWalk.i64_in _ (by omega)]; omega) h
end
/-- the driver, for sums of counts -/
theorem gA {G G' : Prop} (h : G') (e : Hold G' → G := by
    intro h
    first | refine zNil ?_ | refine zOp ?_ | refine zOpn ?_ | refine zNo ?_ | refine zNon ?_ | refine zUn ?_ | refine zUnn ?_ | refine zYes ?_ | refine zYesn ?_ | (refine zkL ?_; first | refine zL1 ?_ | refine zL2 ?_ | refine zL3 ?_ | refine zLp ?_) | refine zM ?_ | (refine zkF ?_; first | refine zF1 ?_ | refine zF2 ?_ | refine zF3 ?_) | refine zA ?_ | (refine zkB ?_; first | refine zC5 ?_ | refine zC6 ?_ | refine zC1 ?_ | refine zC2 ?_ | refine zC3 ?_ | refine zC4 ?_ | refine zS5 ?_ | refine zS6 ?_ | refine zS1 ?_ | refine zS2 ?_ | refine zS3 ?_ | refine zS4 ?_ | refine zAn ?_ | refine zQ1 ?_ | refine zQ2 ?_ | refine zQ3 ?_ | refine zQ4 ?_ | refine zQ5 ?_ | refine zQ6 ?_) | (refine zkI ?_; first | refine zN3 ?_ | refine zN4 ?_) | refine zS ?_ | refine zPt ?_ | refine zPf ?_ | refine zE ?_ | refine zEA ?_ | refine zNot ?_ | refine zBd ?_ | refine zFn ?_ | refine zK1 ?_ | refine zK2 ?_ | refine zBs ?_ | refine ac_seq ?_ | refine ac_block ?_ | refine ac_region ?_ | refine ac_skip ?_ | refine ac_exit ?_ | refine ac_ret ?_ | refine zT ?_ | refine zF ?_
    repeat (first | refine zNil ?_ | refine zOp ?_ | refine zOpn ?_ | refine zNo ?_ | refine zNon ?_ | refine zUn ?_ | refine zUnn ?_ | refine zYes ?_ | refine zYesn ?_ | (refine zkL ?_; first | refine zL1 ?_ | refine zL2 ?_ | refine zL3 ?_ | refine zLp ?_) | refine zM ?_ | (refine zkF ?_; first | refine zF1 ?_ | refine zF2 ?_ | refine zF3 ?_) | refine zA ?_ | (refine zkB ?_; first | refine zC5 ?_ | refine zC6 ?_ | refine zC1 ?_ | refine zC2 ?_ | refine zC3 ?_ | refine zC4 ?_ | refine zS5 ?_ | refine zS6 ?_ | refine zS1 ?_ | refine zS2 ?_ | refine zS3 ?_ | refine zS4 ?_ | refine zAn ?_ | refine zQ1 ?_ | refine zQ2 ?_ | refine zQ3 ?_ | refine zQ4 ?_ | refine zQ5 ?_ | refine zQ6 ?_) | (refine zkI ?_; first | refine zN3 ?_ | refine zN4 ?_) | refine zS ?_ | refine zPt ?_ | refine zPf ?_ | refine zE ?_ | refine zEA ?_ | refine zNot ?_ | refine zBd ?_ | refine zFn ?_ | refine zK1 ?_ | refine zK2 ?_ | refine zBs ?_ | refine ac_seq ?_ | refine ac_block ?_ | refine ac_region ?_ | refine ac_skip ?_ | refine ac_exit ?_ | refine ac_ret ?_ | refine zT ?_ | refine zF ?_)
    exact h.out) : G := e ⟨h⟩
end Go.Proofs.Ytnkafjkcjpajgaa
namespace Go.Proofs.Ytnkafjkcjpajgaa
open Go.RowKit
theorem lits_rt (M : Mm) : ∀ l : List Value, RTs M (l.map T.lit) l
  | [] => by simp only [List.map_nil, RTs]
  | v :: l => by simp only [List.map_cons, RTs]; exact ⟨v, l, rfl, by simp only [RT], lits_rt M l⟩
section
variable {P : Program} {F : Frm} {L : Tab} {d : Option Tmp} {ty : TypeId} {pos : String} {aft : Array Edge} {g : Option (Nat × Bool)} {ρ : Operand → AV} {hp : List Blk} {K : AV → List Blk → Prop}
theorem lo_cap_nil (hL : TabOk P L) {t el : TypeId} {ti : TI} {x : Operand} (hx : ρ x = .c (.lit (.slice none 0 0))) (ht : L.look t = some ti) (hd : ti.d = .slice el) (h : K (.c (.lit (.int .i64 0))) hp) : LO P F ⟨d, .call { callee := .builtin .cap, args := #[x], argTypes := #[t] }, ty, pos, aft, g⟩ ρ hp K := by
  refine LO.same (fun M e w he hh => ?_) h
  have h1 := he x (by first | (simp [Op.operands]; done) | simp [Op.operands, Call.operands])
  rw [hx] at h1
  simp only [RA, RT] at h1
  exact ⟨_, by simp [execOp, resolve, invoke, builtin, Builtin.cap_, h1, run_underlying (hL.slice ht hd), goInt]; rfl, by simp only [RA, RT]⟩
theorem lo_hi_nil (hL : TabOk P L) {t el : TypeId} {ti te : TI} {x y : Operand} {k : IntKind} (hx : ρ x = .c (.lit (.slice none 0 0))) (hy : ρ y = .c (.lit (.int k 0))) (ht : L.look t = some ti) (hd : ti.d = .slice el) (hte : L.look el = some te) (hK : K (.c (.lit (.slice none 0 0))) hp) : LO P F ⟨d, .slice t x none (some y) none, ty, pos, aft, g⟩ ρ hp K := by
  refine LO.same (fun M e w he _ => ?_) hK
  have h1 := he x (by simp [Op.operands])
  rw [hx] at h1
  simp only [RA, RT] at h1
  have h2 := he y (by simp [Op.operands])
  rw [hy] at h2
  simp only [RA, RT] at h2
  refine ⟨.slice none 0 0, ?_, by simp only [RA, RT]⟩
  have hb := run_sliceBound (P := P) (w := w) k (0 : Int) 0 .sliceAcap (by omega) (by omega)
  simp [execOp, Instr.sliceAt, Instr.slice, Instr.sliceBounds, h1, h2, run_underlying (hL.slice ht hd), hL.sizeOf hte, hb]
theorem exec_append2 {e : Operand → Value} {x y : Operand} {t u : TypeId} (w : World) {v' : Value} {w' : World} (h : (Builtin.append_ #[t, u] ty #[e x, e y]).run P w = .ok v' w') :
    (execOp e ⟨d, .call { callee := .builtin .append, args := #[x, y], argTypes := #[t, u] }, ty, pos, aft, g⟩).run P w = .ok (.value v') w' := by
  simp [execOp, resolve, invoke, builtin, h]
theorem lo_app0 (hL : TabOk P L) {t tn el : TypeId} {ti tin te : TI} {x y : Operand} (n : Nat) {kn : IntKind} (hn0 : 0 < n) (hx : ρ x = .c (.lit (.slice none 0 0))) (hy : ρ y = .c (.lit (.int .i64 (n : Nat)))) (ht : L.look t = some ti) (hd : ti.d = .slice el) (htn : L.look tn = some tin) (hdn : tin.d = .int kn) (hte : L.look el = some te) (h0 : 0 < te.size) (hbytes : n * te.bytes ≤ 140737488355328) (hn : n ≤ 140737488355328)
    (h : ∀ v' ts, K (.own hp.length v') (hp ++ [.row v' el te.size n ts])) : LO P F ⟨d, .call { callee := .builtin .append, args := #[x, y], argTypes := #[t, tn] }, ty, pos, aft, g⟩ ρ hp K := by
  refine ⟨fun M e w he hh => ?_⟩
  have h1 := he x (by first | (simp [Op.operands]; done) | simp [Op.operands, Call.operands])
  rw [hx] at h1
  simp only [RA, RT] at h1
  have h2 := he y (by first | (simp [Op.operands]; done) | simp [Op.operands, Call.operands])
  rw [hy] at h2
  simp only [RA, RT] at h2
  obtain ⟨inf, z, hi1, hi2, hi3, hi4, hi5, hi6, _⟩ := hL.info hte
  have g1 := Lib.run_append_grow_zeros (P := P) w t tn ty el inf z .i64 kn (hL.slice ht hd) (hL.int htn hdn) hi1 hi4 none 0 0 [] (by simp [Builtin.firstCells]) n hn0 (by omega) (by omega) (by omega) (by rw [hi3]; omega) (by rw [hi3]; exact growslice_fits (by omega) (by simpa using hbytes))
  simp only [Nat.zero_add] at g1
  rw [← h1, ← h2] at g1
  rw [exec_append2 w g1]
  have hge := grownCap_ge w n 0 el
  have hcm : grownCap w n 0 el ≤ maxLen := grownCap_le_maxLen w n 0 el (by unfold maxLen; omega)
  have hzl : (Builtin.zeroCells z.cells n).toList.length = n * te.size := by rw [Array.length_toList, size_zeroCells, hi6.1]
  have hone : OneAll (Builtin.zeroCells z.cells n).toList := by
    intro u hu
    simp only [Builtin.zeroCells, Array.toList_map, List.mem_map, Array.mem_toList_iff, Array.mem_range] at hu
    obtain ⟨j, hj, rfl⟩ := hu
    have hm : j % z.cells.size < z.cells.size := Nat.mod_lt _ (by rw [hi6.1]; omega)
    rw [getElem!_pos z.cells _ hm]
    refine hi6.2 _ ?_
    rw [← hi5]
    exact Array.getElem_mem_toList hm
  have hown : OwnsO (w.drew.alloc (.cells (#[] ++ Builtin.zeroCells z.cells n ++ Builtin.zeroCells z.cells (grownCap w n 0 el - n)) el)) el te.size (.slice (some ⟨w.heap.size, 0, none⟩) n (grownCap w n 0 el)) n (Builtin.zeroCells z.cells n).toList := by
    refine ⟨hzl, .inr ⟨w.heap.size, 0, _, _, rfl, heap_alloc_new w.drew _, hge, hcm, ?_, ?_⟩⟩
    · simp only [Array.size_append, size_zeroCells, hi6.1, Nat.zero_add, List.size_toArray, List.length_nil]
      rw [← Nat.add_mul]
      exact Nat.mul_le_mul_right _ (by omega)
    · simp only [Array.toList_append, List.drop_zero, List.nil_append]
      rw [← hzl]
      exact List.take_left
  generalize hxs : (Builtin.zeroCells z.cells n).toList = xs at *
  refine ⟨M, _, _, h (.slice (some ⟨w.heap.size, 0, none⟩) n (grownCap w n 0 el)) (xs.map T.lit), Ext.refl _ _, ?_, by simp only [RA]; exact ⟨trivial, rfl⟩⟩
  refine push_row (w' := w.drew.alloc (.cells (#[] ++ Builtin.zeroCells z.cells n ++ Builtin.zeroCells z.cells (grownCap w n 0 el - n)) el)) (x := .row (.slice (some ⟨w.heap.size, 0, none⟩) n (grownCap w n 0 el)) el te.size n (xs.map T.lit)) hh rfl rfl rfl (by simp) (fun b hb => heap_alloc_old w.drew _ hb) (Ext.refl _ _) (fun p v h1 h2 => by rw [h2] at h1; cases h1) ⟨xs, hown, lits_rt M xs, hone, h0⟩ (fun b hb => ?_)
  obtain rfl : w.heap.size = b := by simpa [Blk.blk, Value.ownBlock] using hb
  exact ⟨Nat.le_refl _, fun p hp => mem_fresh hh.mem (by omega)⟩
theorem zCap0 {t el : TypeId} {ti : TI} {x : Operand} (h : K (.c (.lit (.int .i64 0))) hp) (hL : TabOk P L := by exact tok) (hx : ρ x = .c (.lit (.slice none 0 0)) := by exact rfl) (ht : L.look t = some ti := by exact rfl) (hd : ti.d = .slice el := by exact rfl) : LO P F ⟨d, .call { callee := .builtin .cap, args := #[x], argTypes := #[t] }, ty, pos, aft, g⟩ ρ hp K := lo_cap_nil hL hx ht hd h
theorem zHn {t el : TypeId} {ti te : TI} {x y : Operand} {k : IntKind} (h : K (.c (.lit (.slice none 0 0))) hp) (hL : TabOk P L := by exact tok) (hx : ρ x = .c (.lit (.slice none 0 0)) := by exact rfl) (hy : ρ y = .c (.lit (.int k 0)) := by exact rfl) (ht : L.look t = some ti := by exact rfl) (hd : ti.d = .slice el := by exact rfl) (hte : L.look el = some te := by exact rfl) : LO P F ⟨d, .slice t x none (some y) none, ty, pos, aft, g⟩ ρ hp K := lo_hi_nil hL hx hy ht hd hte h
theorem zAp0 {t tn el : TypeId} {ti tin te : TI} {x y : Operand} {kn : IntKind} {k : Nat} {hp' : Value → List T → List Blk} (n : Nat) (hn0 : 0 < n) (hn : n ≤ 1048576) (h : ∀ v' ts, K (.own k v') (hp' v' ts)) (hL : TabOk P L := by exact tok) (hx : ρ x = .c (.lit (.slice none 0 0)) := by exact rfl) (hy : ρ y = .c (.lit (.int .i64 (n : Nat))) := by exact rfl) (ht : L.look t = some ti := by exact rfl) (hd : ti.d = .slice el := by exact rfl) (htn : L.look tn = some tin := by exact rfl) (hdn : tin.d = .int kn := by exact rfl) (hte : L.look el = some te := by exact rfl) (h0 : Nat.ble 1 te.size = true := by exact rfl) (hb : te.bytes ≤ 1048576 := by decide) (hk : lenU hp = some k := by exact rfl)
    (hf : ∀ v' ts, evl (hp ++ [.row v' el te.size n ts]) = some (hp' v' ts) := by exact fun _ _ => rfl) : LO P F ⟨d, .call { callee := .builtin .append, args := #[x, y], argTypes := #[t, tn] }, ty, pos, aft, g⟩ ρ hp K :=
  lo_app0 hL n hn0 hx hy ht hd htn hdn hte (Nat.le_of_ble_eq_true h0) (Nat.le_trans (Nat.mul_le_mul hn hb) (by decide)) (by omega) fun v' ts => by
    rw [← lenU_eq hk, ← evl_eq (hf v' ts)]; exact h v' ts
end
end Go.Proofs.Ytnkafjkcjpajgaa
namespace Go.Proofs.Ytnkafjkcjpajgaa
open Go.RowKit
theorem bs_data (s : ByteArray) : bs s.data.toList = s := by cases s; rfl
section
variable {P : Program} {F : Frm} {L : Tab} {d : Option Tmp} {ty : TypeId} {pos : String} {aft : Array Edge} {g : Option (Nat × Bool)} {ρ : Operand → AV} {hp : List Blk} {K : AV → List Blk → Prop}
/-- the part of an own row from the l-th element on, asq a value -/
def subV (v : Value) (l sz : Nat) : Value := match v with
  | .slice A n c => .slice (if c = l then A else A.map (·.add (l * sz))) (n - l) (c - l)
  | u => u
theorem zQs {t el : TypeId} {ti te : TI} {x y : Operand} {i n sz : Nat} {v : Value} {e : TypeId} {cs : List T} {k : IntKind} {z : Int} (l : Nat) (hl : l ≤ n) (h : K (.c (.lit (subV v l sz))) hp) (hz : z = (l : Int) := by exact rfl) (hL : TabOk P L := by exact tok) (hx : ρ x = .own i v := by exact rfl) (hi : hp[i]? = some (.row v e sz n cs) := by exact rfl) (hy : ρ y = .c (.lit (.int k z)) := by exact rfl) (ht : L.look t = some ti := by exact rfl) (hd : ti.d = .slice el := by exact rfl) (hte : L.look el = some te := by exact rfl) (hsz : te.size = sz := by exact rfl) : LO P F ⟨d, .slice t x (some y) none none, ty, pos, aft, g⟩ ρ hp K := by
  refine ⟨fun M ev w he hh => ?_⟩
  have h1 := he x (by simp [Op.operands])
  rw [hx] at h1
  simp only [RA] at h1
  have h2 := he y (by simp [Op.operands])
  rw [hy] at h2
  simp only [RA, RT] at h2
  obtain ⟨xs, ho, hxs, hone, h0⟩ := hh.at_ i _ hi
  obtain ⟨A, c, rfl, hnc, hcm⟩ := ownO_shape ho
  subst hz
  have hb := run_sliceBound (P := P) (w := w) k (l : Int) n .sliceB (by omega) (by omega)
  have hr : (execOp ev ⟨d, .slice t x (some y) none none, ty, pos, aft, g⟩).run P w = .ok (.value (.slice (if c = l then A else A.map (·.add (l * sz))) (n - l) (c - l))) w := by
    simp [execOp, Instr.sliceAt, Instr.slice, Instr.sliceBounds, h1.1, h2, run_underlying (hL.slice ht hd), hL.sizeOf hte, hb, hsz]
  rw [hr]
  exact ⟨M, _, hp, h, Ext.refl _ _, hh, by simp only [RA, RT, subV]⟩
theorem zeroCells_one {z : Array Value} (h : OneAll z.toList) (hz : 0 < z.size) (n : Nat) : OneAll (Builtin.zeroCells z n).toList := by
  intro u hu
  simp only [Builtin.zeroCells, Array.toList_map, List.mem_map, Array.mem_toList_iff, Array.mem_range] at hu
  obtain ⟨j, hj, rfl⟩ := hu
  have hm : j % z.size < z.size := Nat.mod_lt _ hz
  rw [getElem!_pos z _ hm]
  exact h _ (Array.getElem_mem_toList hm)
theorem set_same {α : Type} {l : List α} {i : Nat} {a : α} (h : l[i]? = some a) : l.set i a = l := by
  apply List.ext_getElem?
  intro j
  rw [List.getElem?_set]
  by_cases hij : i = j
  · subst hij
    rw [if_pos rfl, if_pos (List.getElem?_eq_some_iff.1 h).1, h]
  · rw [if_neg hij]
theorem lo_clear (hL : TabOk P L) {t el : TypeId} {ti te : TI} {x : Operand} {i n sz l : Nat} {v : Value} {cs : List T} (hl : l ≤ n) (hx : ρ x = .c (.lit (subV v l sz))) (hi : hp[i]? = some (.row v el sz n cs)) (ht : L.look t = some ti) (hd : ti.d = .slice el) (hte : L.look el = some te) (hsz : te.size = sz)
    (h : ∀ us : List T, us.length = (n - l) * sz → K (.c (.tup [])) (hp.set i (.row v el sz n (spl cs (l * sz) us)))) : LO P F ⟨d, .call { callee := .builtin .clear, args := #[x], argTypes := #[t] }, ty, pos, aft, g⟩ ρ hp K := by
  subst hsz
  refine ⟨fun M e w he hh => ?_⟩
  have hax := he x (by first | (simp [Op.operands]; done) | simp [Op.operands, Call.operands])
  rw [hx] at hax
  simp only [RA, RT] at hax
  obtain ⟨xs, how, hxs, hone, hsz⟩ := hh.at_ i _ hi
  obtain ⟨zv, hzv, hzc, hzs, hz1⟩ := hL.zero hte
  by_cases hnl : n - l = 0
  · obtain ⟨A, c, rfl, hnc, hcm⟩ := ownO_shape how
    have hrun : (execOp e ⟨d, .call { callee := .builtin .clear, args := #[x], argTypes := #[t] }, ty, pos, aft, g⟩).run P w = .ok (.value (.tuple #[])) w := by
      simp [execOp, resolve, invoke, builtin, Builtin.clear_, hax, subV, hnl, run_underlying (hL.slice ht hd)]
      split <;> simp_all
    rw [hrun]
    have hk := h [] (by rw [hnl]; simp)
    have hsp : spl cs (l * te.size) ([] : List T) = cs := rfl
    rw [hsp, set_same hi] at hk
    exact ⟨M, _, hp, hk, Ext.refl _ _, hh, by simp only [RA, RT, RTs]; exact ⟨[], rfl, rfl⟩⟩
  rcases how.2 with ⟨_, h0⟩ | ⟨g', o', cap, cur, hv, hg, hnc, hcm, hcur, htk⟩
  · omega
  subst hv
  have hcl : cap ≠ l := by omega
  have hlen := hxs.len
  have hxl := how.1
  obtain ⟨Z, hZ⟩ : ∃ Z, Z = (Builtin.zeroCells zv.cells (n - l)).toList := ⟨_, rfl⟩
  have hZl : Z.length = (n - l) * te.size := by rw [hZ, Array.length_toList, size_zeroCells, hzs]
  have hZ1 : OneAll Z := by rw [hZ]; exact zeroCells_one (by rw [hzc]; exact hz1) (by rw [hzs]; omega) _
  have hmul : l * te.size + (n - l) * te.size = n * te.size := by rw [← Nat.add_mul]; congr 1; omega
  have hoff : l * te.size + Z.length ≤ xs.length := by rw [hZl, hxl]; omega
  have hcl2 : o' + xs.length ≤ cur.size := by rw [hxl]; have := Nat.mul_le_mul_right te.size hnc; omega
  have hst := run_storeCells_at (P := P) g' (o' + l * te.size) el Z 0 cur w hg (by simp at hoff ⊢; omega) hZ1
  have hrun : (execOp e ⟨d, .call { callee := .builtin .clear, args := #[x], argTypes := #[t] }, ty, pos, aft, g⟩).run P w = .ok (.value (.tuple #[])) (w.setRow g' (spl cur.toList (o' + l * te.size) Z).toArray) := by
    rw [spl_eq _ _ _ (by simp at hoff ⊢; omega)]
    have hadd : (⟨g', o', none⟩ : Addr).add (l * te.size) = ⟨g', o' + l * te.size, none⟩ := by rw [box_add]
    have hsv : subV (.slice (some ⟨g', o', none⟩) n cap) l te.size = .slice (some ⟨g', o' + l * te.size, none⟩) (n - l) (cap - l) := by simp [subV, hcl, hadd]
    rw [hsv] at hax
    obtain ⟨m, hm⟩ : ∃ m, n - l = m + 1 := ⟨n - l - 1, by omega⟩
    rw [hm] at hax hZ
    simp [execOp, resolve, invoke, builtin, Builtin.clear_, hax, run_underlying (hL.slice ht hd), hzv, ← hZ] at hst ⊢
    simp [hst]
  rw [hrun]
  have hblk := setRow_heap w g' cur (spl cur.toList (o' + l * te.size) Z).toArray el _ hg
  refine ⟨M, _, _, h (Z.map T.lit) (by rw [List.length_map, hZl]), Ext.refl _ _, ?_, by simp only [RA, RT, RTs]; exact ⟨[], rfl, rfl⟩⟩
  refine hh.step i rfl rfl rfl (by simp [World.setRow]) (fun k hk hne => ?_) (Ext.refl _ _) (fun p v h1 h2 => by rw [h2] at h1; cases h1) (fun j hj => by rw [List.getElem?_set_ne (Ne.symm hj)]) (fun x' hx' => ?_)
  · have : k ≠ g' := fun e => hne _ hi (by rw [e]; rfl)
    simp [World.setRow, Array.getElem?_modify, Ne.symm this]
  · have hlt : i < hp.length := (List.getElem?_eq_some_iff.1 hi).1
    rw [List.getElem?_set_self hlt] at hx'
    obtain rfl : Blk.row (.slice (some ⟨g', o', none⟩) n cap) el te.size n (spl cs (l * te.size) (Z.map T.lit)) = x' := by injection hx'
    refine ⟨⟨spl xs (l * te.size) Z, ⟨by rw [spl_len]; exact hxl, .inr ⟨g', o', cap, (spl cur.toList (o' + l * te.size) Z).toArray, rfl, hblk, hnc, hcm, by simpa [spl_len] using hcur, ?_⟩⟩, RTs.spl hxs (lits_rt M Z), spl_one hone hZ1, hsz⟩, fun b' hb' => .inl ⟨_, hi, hb'⟩⟩
    simp only
    rw [spl_eq _ _ _ (by simp at hoff ⊢; omega), spl_eq _ _ _ hoff, ← htk]
    have hk : l * te.size + Z.length ≤ n * te.size := by rw [← hxl]; exact hoff
    have hcl3 : o' + n * te.size ≤ cur.toList.length := by rw [hxl] at hcl2; simpa using hcl2
    rw [drop_spl cur.toList Z o' (l * te.size) (by omega)]
    exact take_spl (cur.toList.drop o') Z (l * te.size) (n * te.size) hk (by rw [List.length_drop]; omega)
theorem zClr {t el : TypeId} {ti te : TI} {x : Operand} {n sz : Nat} {v : Value} {cs : List T} {hp' : List T → List Blk} (i l : Nat) (hl : l ≤ n) (h : ∀ us : List T, us.length = (n - l) * sz → K (.c (.tup [])) (hp' us)) (hL : TabOk P L := by exact tok) (hx : ρ x = .c (.lit (subV v l sz)) := by exact rfl) (hi : hp[i]? = some (.row v el sz n cs) := by exact rfl) (ht : L.look t = some ti := by exact rfl) (hd : ti.d = .slice el := by exact rfl) (hte : L.look el = some te := by exact rfl) (hsz : te.size = sz := by exact rfl)
    (hf : ∀ us, evl (hp.set i (.row v el sz n (spl cs (l * sz) us))) = some (hp' us) := by exact fun _ => rfl) : LO P F ⟨d, .call { callee := .builtin .clear, args := #[x], argTypes := #[t] }, ty, pos, aft, g⟩ ρ hp K :=
  lo_clear hL hl hx hi ht hd hte hsz fun us hu => by rw [← evl_eq (hf us)]; exact h us hu
theorem take_clear {α : Type} (cs us : List α) (k : Nat) (h : k + us.length ≤ cs.length) : (spl cs k us).take k = cs.take k := by
  rw [spl_eq _ _ _ h, List.append_assoc, List.take_append_of_le_length (by rw [List.length_take]; omega), List.take_take, Nat.min_self]
end
end Go.Proofs.Ytnkafjkcjpajgaa
namespace Go.Proofs.Ytnkafjkcjpajgaa
open Go.RowKit
theorem lits_rts (M : Mm) (l : List Value) : RTs M (l.map fun v => T.lit v) l := lits_rt M l
section
variable {P : Program} {F : Frm} {L : Tab} {d : Option Tmp} {ty : TypeId} {pos : String} {aft : Array Edge} {g : Option (Nat × Bool)} {ρ : Operand → AV} {hp : List Blk} {K : AV → List Blk → Prop} {α : Type} [DecidableEq α] {κ : α → Value} {dk : TypeDesc} {te : TI} {x y : Operand} {i b : Nat} {o : Option (List Nat × Nat)}
theorem lo_lookup_agg (hκ : KeyIs dk κ) (hL : TabOk P L) {xT kT eT : TypeId} {l : List (α × T)} {k : α} (hu : P.underlying xT = some (.map kT eT)) (hk : P.underlying kT = some dk) (hte : L.look eT = some te) (ha : te.agg = true) (hx : ρ x = .own i (.map (some b))) (hi : hp[i]? = some (.mpx b (mkeys κ l) o)) (hy : ρ y = .c (.lit (κ k)))
    (h : K (.c (.tup [(mget k l).getD (.agg (te.zero.map fun v => T.lit v)), .lit (.bool (mget k l).isSome)])) hp) : LO P F ⟨d, .lookup xT x y true, ty, pos, aft, g⟩ ρ hp K := by
  refine LO.same (fun M e w he hh => ?_) h
  have h1 := he x (by first | (simp [Op.operands]; done) | simp [Op.operands, Call.operands])
  rw [hx] at h1
  simp only [RA] at h1
  have h2 := he y (by first | (simp [Op.operands]; done) | simp [Op.operands, Call.operands])
  rw [hy] at h2
  simp only [RA, RT] at h2
  obtain ⟨es, clock, hb, hkeys, hvals, -, -⟩ := hh.at_ i _ hi
  have hkeys' : es.map (·.key) = l.map (fun p => κ p.1) := by rw [hkeys]; simp [mkeys]
  have hvals' : RTs M (l.map (·.2)) (es.map (·.val)) := by simpa [mkeys, Function.comp_def] using hvals
  rcases find_keys hκ k l es 0 hkeys' with ⟨f1, f2, _⟩ | ⟨j, e', t, f1, f2, f3, f4, _⟩
  · obtain ⟨inf, zv, g1, _, _, g2, g3, g4, g5⟩ := hL.info hte
    rw [ha] at g5
    obtain ⟨a, rfl⟩ : ∃ a, zv = .agg a := by cases zv <;> simp_all
    have hza : a.toList = te.zero := g3
    have hzr : (zeroValue eT).run P w = .ok (.agg a) w := by simp [zeroValue, typeInfo, g1, g2]
    refine ⟨.tuple #[.agg a, .bool false], ?_, by rw [f2]; simp only [Option.getD_none, Option.isSome_none, RA, RT, RTs]; exact ⟨[.agg a, .bool false], rfl, _, _, rfl, ⟨te.zero, by rw [← hza], lits_rts M te.zero⟩, _, _, rfl, rfl, rfl⟩⟩
    simp [execOp, Instr.lookup, h1.1, h2, run_underlying hu, MapKept.run_getObj_map hb, MapKept.run_checkKey hk (hκ.is k), MapKept.run_findKey hk f1, hzr]
  · obtain ⟨u, hu1, hu2⟩ := hvals'.get (j := j) (t := t) (by rw [List.getElem?_map, f3]; rfl)
    rw [List.getElem?_map, f2] at hu1
    obtain rfl : e'.val = u := by simpa using hu1
    refine ⟨.tuple #[e'.val, .bool true], ?_, by rw [f4]; simp only [Option.getD_some, Option.isSome_some, RA, RT, RTs]; exact ⟨[e'.val, .bool true], rfl, _, _, rfl, hu2, _, _, rfl, rfl, rfl⟩⟩
    simp [execOp, Instr.lookup, h1.1, h2, run_underlying hu, MapKept.run_getObj_map hb, MapKept.run_checkKey hk (hκ.is k), MapKept.run_findKey hk f1]
end
section
variable {P : Program} {F : Frm} {L : Tab} {d : Option Tmp} {ty : TypeId} {pos : String} {aft : Array Edge} {g : Option (Nat × Bool)} {ρ : Operand → AV} {hp : List Blk} {K : AV → List Blk → Prop} {te : TI} {x y : Operand} {i b : Nat} {o : Option (List Nat × Nat)} {xT : TypeId}
theorem zLksa (kT eT : TypeId) {s : ByteArray} {l : List (ByteArray × T)} {zs : List T} {t : T} {c : Bool} (ht : (mget s l).getD (.agg zs) = t) (hc : (mget s l).isSome = c) (h : K (.c (.tup [t, .lit (.bool c)])) hp) (hL : TabOk P L := by exact tok) (hu : isMap P xT = some (kT, eT) := by kernel_rfl) (hk : P.underlying kT = some .string := by kernel_rfl) (hte : L.look eT = some te := by exact rfl) (hz : te.zero.map (fun v => T.lit v) = zs := by exact rfl) (ha : te.agg = true := by exact rfl) (hx : ρ x = .own i (.map (some b)) := by exact rfl) (hi : hp[i]? = some (.mpx b (mkeys Value.string l) o) := by exact rfl) (hy : ρ y = .c (.lit (.string s)) := by exact rfl) :
    LO P F ⟨d, .lookup xT x y true, ty, pos, aft, g⟩ ρ hp K := lo_lookup_agg keyStr hL (isMap_eq hu) hk hte ha hx hi hy (by rw [hz, ht, hc]; exact h)
end
end Go.Proofs.Ytnkafjkcjpajgaa
namespace Go.Proofs.Ytnkafjkcjpajgaa
open Go.RowKit
theorem TabOk.array {P : Program} {L : Tab} (hL : TabOk P L) {t e : TypeId} {n : Nat} {i : TI} (h : L.look t = some i) (hd : i.d = .array n e) : P.underlying t = some (.array n e) := by
  obtain ⟨d, h1, h2⟩ := hL.desc h
  rw [hd] at h2
  cases d <;> simp [descB] at h2
  rw [h1, h2.1, h2.2]
end Go.Proofs.Ytnkafjkcjpajgaa
namespace Go.Proofs.Ytnkafjkcjpajgaa
open Go.RowKit
inductive Pt where
  | fin (r : List Nat)
  | fork (p : List Nat) (i : Nat) (a : Pt) (j : Nat) (b : Pt)
  | fork3 (p : List Nat) (i : Nat) (a : Pt) (j : Nat) (b : Pt) (k : Nat) (c : Pt)
  | fork4 (p : List Nat) (i : Nat) (a : Pt) (j : Nat) (b : Pt) (k : Nat) (c : Pt) (m : Nat) (d : Pt)
def Pt.n : Pt → Nat
  | .fin r => r.length
  | .fork p _ a _ _ => a.n + 1 + p.length
  | .fork3 p _ a _ _ _ _ => a.n + 1 + p.length
  | .fork4 p _ a _ _ _ _ _ _ => a.n + 1 + p.length
end Go.Proofs.Ytnkafjkcjpajgaa
namespace Go.Proofs.Ytnkafjkcjpajgaa
open Go.RowKit
/-- the type of a structure's field -/
def fty (P : Program) (s : TypeId) (k : Nat) : Option TypeId := match P.underlying s with
  | some (.struct fs) => (fs[k]?).map (·.type)
  | _ => none
theorem fty_of {P : Program} {s te : TypeId} {k : Nat} {fs : Array Field} {f : Field} (hf : fty P s k = some te) (h : P.underlying s = some (.struct fs)) (hk : fs[k]? = some f) : f.type = te := by
  unfold fty at hf
  rw [h] at hf
  simpa [hk] using hf
section
variable {P : Program} {F : Frm} {L : Tab} {d : Option Tmp} {ty : TypeId} {pos : String} {aft : Array Edge} {g : Option (Nat × Bool)} {ρ : Operand → AV} {hp : List Blk} {K : AV → List Blk → Prop}
theorem lo_field1 {s : TypeId} (te : TypeId) {ti tie : TI} {fs : List (Nat × Nat)} {k o sz : Nat} {x : Operand} {ts : List T} {v : T} (hL : TabOk P L) (hx : ρ x = .c (.agg ts)) (ht : L.look s = some ti) (hd : ti.d = .struct fs) (hk : fs[k]? = some (o, sz)) (hf : fty P s k = some te) (hte : L.look te = some tie) (ha : tie.agg = false) (hl : ts[o]? = some v) (h : K (.c v) hp) : LO P F ⟨d, .field s x k, ty, pos, aft, g⟩ ρ hp K := by
  refine LO.same (fun M e w he hh => ?_) h
  have h1 := he x (by simp [Op.operands])
  rw [hx] at h1
  simp only [RA, RT] at h1
  obtain ⟨xs, hu, hxs⟩ := h1
  obtain ⟨fields, f, h2, h3, h4, h5⟩ := hL.field ht hd hk
  have hft := fty_of hf h2 h3
  obtain ⟨u, hu1, hu2⟩ := hxs.get hl
  refine ⟨u, ?_, by simp only [RA]; exact hu2⟩
  simp [execOp, Instr.field, hu, run_underlying h2, h3, hft, h4, asAgg, part, hL.isAgg hte, ha, hu1]
theorem zFd1 {s : TypeId} (te : TypeId) {ti tie : TI} {fs : List (Nat × Nat)} {k o sz : Nat} {x : Operand} {ts : List T} {v : T} (h : K (.c v) hp) (hL : TabOk P L := by exact tok) (hx : ρ x = .c (.agg ts) := by exact rfl) (ht : L.look s = some ti := by exact rfl) (hd : ti.d = .struct fs := by exact rfl) (hk : fs[k]? = some (o, sz) := by exact rfl) (hf : fty P s k = some te := by kernel_rfl) (hte : L.look te = some tie := by exact rfl) (ha : tie.agg = false := by exact rfl) (hl : ts[o]? = some v := by exact rfl) : LO P F ⟨d, .field s x k, ty, pos, aft, g⟩ ρ hp K :=
  lo_field1 te hL hx ht hd hk hf hte ha hl h
theorem lo_eqbr {t t' : TypeId} {x y : Operand} {a b r : Bool} (hr : decide (a = b) = r) (h : K (.c (.lit (.bool r))) hp) (hx : ρ x = .c (.lit (.bool a)) := by exact rfl) (hy : ρ y = .c (.lit (.bool b)) := by exact rfl) (hu : isBool P t = true := by kernel_rfl) : LO P F ⟨d, .binOp .eql t x y t', ty, pos, aft, g⟩ ρ hp K :=
  zB5 (hr ▸ h) hx hy hu
end
end Go.Proofs.Ytnkafjkcjpajgaa
namespace Go.Proofs.Ytnkafjkcjpajgaa
open Go.RowKit
section
variable {P : Program} {F : Frm} {L : Tab} {d : Option Tmp} {ty : TypeId} {pos : String} {aft : Array Edge} {g : Option (Nat × Bool)} {ρ : Operand → AV} {hp : List Blk} {K : AV → List Blk → Prop}
theorem lo_ins {xT : TypeId} {x y z : Operand} (h : LO P F ⟨d, .mapUpdate xT x y z, ty, pos, aft, g⟩ ρ hp K) : LO P F ⟨d, .insert xT x y z, ty, pos, aft, g⟩ ρ hp K :=
  ⟨fun M e w he hh => h.out M e w he hh⟩
variable {kT eT xT : TypeId} {x y z : Operand} {i b : Nat}
end
theorem heap_pick {F : Frm} {M : Mm} {hp hs : List Blk} {w : World} {sel : List Nat} (h : HeapOk F M hp w) (hs' : selB hp sel = some hs) (hf : freshB sel = true) : HeapOk F M hs w := by
  refine ⟨h.mem, h.ext, h.frm, fun i x hx => ?_, fun i j x y b hx hy hxb hyb => ?_, fun i x b hx hxb => ?_⟩
  · obtain ⟨j, _, h2⟩ := selB_get hs' hx
    exact h.at_ j x h2
  · obtain ⟨k, h1, h2⟩ := selB_get hs' hx
    obtain ⟨k', h3, h4⟩ := selB_get hs' hy
    have := h.sep k k' x y b h2 h4 hxb hyb
    subst this
    exact freshB_inj hf h1 h3
  · obtain ⟨j, _, h2⟩ := selB_get hs' hx
    exact h.out j x b h2 hxb
section
variable {P : Program} {F : Frm} {τ : Nat → AV} {hp hs : List Blk} {N : Nat} {Q : Exit → AS → Prop}
theorem wk_pick (sel : List Nat) (hs' : selB hp sel = some hs) (hf : freshB sel = true) : Wk F ⟨τ, hp, N⟩ ⟨τ, hs, N⟩ := by
  intro M a w hr
  exact ⟨M, hr.tmps, hr.size, hr.defers, heap_pick hr.heap hs' hf⟩
theorem x_pick {c : Go.Code} (sel : List Nat) (hq : AC P F c Q ⟨τ, hs, N⟩) (hs' : selB hp sel = some hs := by exact rfl) (hf : freshB sel = true := by exact rfl) : AC P F c Q ⟨τ, hp, N⟩ := ac_wk (wk_pick sel hs' hf) hq
end
end Go.Proofs.Ytnkafjkcjpajgaa
namespace Go.Proofs.Ytnkafjkcjpajgaa
open Go.RowKit
theorem re_tup {asq bs : List AV} (h : Res asq bs) : Re (.tup asq) (.tup bs) := fun M u hu => by
  simp only [RA] at hu ⊢
  obtain ⟨xs, e, h1⟩ := hu
  exact ⟨xs, e, h M _ h1⟩
end Go.Proofs.Ytnkafjkcjpajgaa
namespace Go.Proofs.Ytnkafjkcjpajgaa
open Go.RowKit
theorem leftOf_mem {l : List MapEntry} {seen : Array Nat} {e : MapEntry} (h : e ∈ (leftOf l.toArray seen).toList) : e ∈ l ∧ e.born ∉ seen.toList := by
  have h1 := mem_left h
  refine ⟨by simpa using h1.1, ?_⟩
  have := h1.2
  rw [Array.contains_eq_mem, decide_eq_false_iff_not] at this
  simpa using this
theorem leftOf_none {l : List MapEntry} {seen : Array Nat} (h : (leftOf l.toArray seen).size = 0) : ∀ e ∈ l, e.born ∈ seen.toList := by
  intro e he
  have h1 : leftOf l.toArray seen = #[] := Array.eq_empty_of_size_eq_zero h
  unfold leftOf at h1
  rw [Array.filter_eq_empty_iff] at h1
  have := h1 e (by simpa using he)
  simpa using this
theorem nodup_map_inj {α β : Type} {f : α → β} : ∀ {l : List α} (_ : (l.map f).Nodup) {i j : Nat} (hi : i < l.length) (hj : j < l.length), f l[i] = f l[j] → i = j := by
  intro l h i j hi hj he
  have hp : (l.map f).Pairwise (· ≠ ·) := h
  have hg := List.pairwise_iff_getElem.1 hp
  rcases Nat.lt_trichotomy i j with hl | hl | hl
  · exact absurd (by rw [List.getElem_map, List.getElem_map]; exact he) (hg i j (by simpa using hi) (by simpa using hj) hl)
  · exact hl
  · exact absurd (by rw [List.getElem_map, List.getElem_map]; exact he.symm) (hg j i (by simpa using hj) (by simpa using hi) hl)
theorem map_erase {α β : Type} (f : α → β) : ∀ (l : List α) (j : Nat), (l.eraseIdx j).map f = (l.map f).eraseIdx j
  | [], j => by simp
  | a :: l, 0 => by simp
  | a :: l, j + 1 => by simp [map_erase f l j]
def mdel {α : Type} [DecidableEq α] (k : α) : List (α × T) → List (α × T)
  | [] => []
  | (k', t) :: l => if k = k' then l else (k', t) :: mdel k l
theorem find_del {α : Type} [DecidableEq α] {dk : TypeDesc} {κ : α → Value} (hκ : KeyIs dk κ) (k : α) : ∀ (l : List (α × T)) (es : List MapEntry) (i : Nat), es.map (·.key) = l.map (fun p => κ p.1) →
    (Instr.findNow dk (κ k) es i = some none ∧ mdel k l = l) ∨
    ∃ j e, Instr.findNow dk (κ k) es i = some (some (i + j, e.val)) ∧ es[j]? = some e ∧ mdel k l = l.eraseIdx j
  | [], es, i, h => by
    obtain rfl : es = [] := by simpa using h
    exact .inl ⟨rfl, rfl⟩
  | (k', t') :: l, [], i, h => by simp at h
  | (k', t') :: l, e :: es, i, h => by
    simp only [List.map_cons, List.cons.injEq] at h
    obtain ⟨r, hr, hiff⟩ := MapKept.sameNow_of_keys (hκ.is k) (by rw [h.1]; exact hκ.is k' : MapKept.IsKey dk e.key)
    rw [h.1] at hiff
    by_cases hk : k = k'
    · subst hk
      obtain rfl : r = true := hiff.2 rfl
      exact .inr ⟨0, e, by simp [Instr.findNow, hr], rfl, by simp [mdel]⟩
    · have hrf : r = false := by
        cases r with
        | false => rfl
        | true => exact absurd (hκ.inj _ _ (hiff.1 rfl)) hk
      subst hrf
      rcases find_del hκ k l es (i + 1) h.2 with ⟨h1, h2⟩ | ⟨j, e', h1, h2, h3⟩
      · exact .inl ⟨by simp [Instr.findNow, hr, h1], by simp [mdel, hk, h2]⟩
      · exact .inr ⟨j + 1, e', by simp [Instr.findNow, hr, h1]; omega, by simpa using h2, by simp [mdel, hk, h3]⟩
theorem RTs.erase {M : Mm} : ∀ {ts : List T} {xs : List Value} (j : Nat), RTs M ts xs → RTs M (ts.eraseIdx j) (xs.eraseIdx j)
  | [], _, j, h => by simp only [RTs] at h; subst h; simp [RTs]
  | t :: ts, _, 0, h => by
    simp only [RTs] at h
    obtain ⟨x, r, rfl, h1, h2⟩ := h
    simpa using h2
  | t :: ts, _, j + 1, h => by
    simp only [RTs] at h
    obtain ⟨x, r, rfl, h1, h2⟩ := h
    simp only [List.eraseIdx_cons_succ, RTs]
    exact ⟨x, _, rfl, h1, RTs.erase j h2⟩
section
variable {P : Program} {F : Frm} {d : Option Tmp} {ty : TypeId} {pos : String} {aft : Array Edge} {g : Option (Nat × Bool)} {ρ : Operand → AV} {hp : List Blk} {K : AV → List Blk → Prop}
theorem lo_range {xT kT eT : TypeId} {x : Operand} {i b : Nat} {es : List (Value × T)} (hu : P.underlying xT = some (.map kT eT)) (hx : ρ x = .own i (.map (some b))) (hi : hp[i]? = some (.mp b es))
    (h : ∀ b' st c, st.length = es.length → K (.ptr hp.length b' 0) (hp.set i (.mpx b es (some (st, c))) ++ [.it b' b st c []])) : LO P F ⟨d, .range xT x, ty, pos, aft, g⟩ ρ hp K := by
  refine ⟨fun M e w he hh => ?_⟩
  have h1 := he x (by first | (simp [Op.operands]; done) | simp [Op.operands, Call.operands])
  rw [hx] at h1
  simp only [RA] at h1
  obtain ⟨es', clock, hb, hkeys, hvals, hstm, hst⟩ := hh.at_ i _ hi
  have hlen : es'.length = es.length := by simpa using congrArg List.length hkeys
  have hrun := run_range_map (P := P) w xT kT eT b es'.toArray clock hu hb
  have hil : i < hp.length := (List.getElem?_eq_some_iff.1 hi).1
  have hh2 : HeapOk F M (hp.set i (.mpx b es (some (es'.map (·.born), clock)))) w := by
    have hg : ∀ (j : Nat) (x : Blk), (hp.set i (.mpx b es (some (es'.map (·.born), clock))))[j]? = some x → ∃ y, hp[j]? = some y ∧ x.blk = y.blk ∧ BlkOk M w x := by
      intro j x hj
      by_cases hij : i = j
      · subst hij
        rw [List.getElem?_set_self hil] at hj
        obtain rfl : _ = x := by injection hj
        exact ⟨_, hi, rfl, ⟨es', clock, hb, hkeys, hvals, hstm, fun s hs => by simpa using hs.symm⟩⟩
      · rw [List.getElem?_set_ne hij] at hj
        exact ⟨x, hj, rfl, hh.at_ j x hj⟩
    refine ⟨hh.mem, hh.ext, hh.frm, fun j x hj => (hg j x hj).choose_spec.2.2, fun j k x y q hj hk hx hy => ?_, fun j x q hj hq => ?_⟩
    · obtain ⟨x', h3, h4, -⟩ := hg j x hj
      obtain ⟨y', h5, h6, -⟩ := hg k y hk
      exact hh.sep j k x' y' q h3 h5 (by rw [← h4]; exact hx) (by rw [← h6]; exact hy)
    · obtain ⟨x', h3, h4, -⟩ := hg j x hj
      exact hh.out j x' q h3 (by rw [← h4]; exact hq)
  have hrun2 : (execOp e ⟨d, .range xT x, ty, pos, aft, g⟩).run P w = .ok (.value (.pointer (some ⟨w.heap.size, 0, none⟩))) (w.alloc (.mapIter (some b) clock #[] clock)) := by
    simp [execOp, h1.1, hrun]
  rw [hrun2]
  have hk := h w.heap.size (es'.map (·.born)) clock (by simpa using hlen)
  refine ⟨M, _, _, hk, Ext.refl _ _, ?_, by simp only [RA]⟩
  have hl2 : (hp.set i (.mpx b es (some (es'.map (·.born), clock)))).length = hp.length := List.length_set
  refine hh2.step hp.length rfl rfl rfl (by simp) (fun b hb _ => Below.heap_alloc _ _ _ hb) (Ext.refl _ _) (fun p v h1 h2 => by rw [h2] at h1; cases h1) (fun j hj => ?_) (fun x' hx' => ?_)
  · rcases Nat.lt_or_ge j hp.length with h | h
    · rw [List.getElem?_append_left (by rw [hl2]; exact h)]
    · rw [List.getElem?_eq_none (by rw [List.length_append, hl2]; simp only [List.length_cons, List.length_nil]; omega), List.getElem?_eq_none (by rw [hl2]; omega)]
  · rw [List.getElem?_append_right (by rw [hl2]; exact Nat.le_refl _), hl2] at hx'
    obtain rfl : _ = x' := by simpa using hx'
    refine ⟨⟨heap_alloc_new w _, fun p hp => by cases hp⟩, fun q hq => .inr ?_⟩
    obtain rfl : w.heap.size = q := by simpa [Blk.blk] using hq
    refine ⟨Nat.le_refl _, fun p hp => ?_⟩
    cases hc : M p with
    | none => rfl
    | some v => have := World.block_lt_of_cell? w p (hh.mem p v hc).1; omega
theorem lo_next {x : Operand} {i j b b' c : Nat} {es : List (Value × T)} {st P' : List Nat} (hx : ρ x = .ptr i b' 0) (hi : hp[i]? = some (.it b' b st c P')) (hj : hp[j]? = some (.mpx b es (some (st, c))))
    (hdone : (∀ k, k < es.length → k ∈ P') → K (.c (.tup [.lit (.bool false)])) hp)
    (hmore : ∀ (k : Nat) (u : Value) (t : T), es[k]? = some (u, t) → k ∉ P' → K (.c (.tup [.lit (.bool true), .lit u, t])) (hp.set i (.it b' b st c (P' ++ [k])))) : LO P F ⟨d, .next x false, ty, pos, aft, g⟩ ρ hp K := by
  refine ⟨fun M e w he hh => ?_⟩
  have h1 := he x (by first | (simp [Op.operands]; done) | simp [Op.operands, Call.operands])
  rw [hx] at h1
  simp only [RA] at h1
  obtain ⟨es', clock, hb, hkeys, hvals, hstm, hst⟩ := hh.at_ j _ hj
  obtain ⟨hst1, rfl⟩ : st = es'.map (·.born) ∧ c = clock := by
    have := hst (st, c) rfl
    exact ⟨congrArg Prod.fst this, congrArg Prod.snd this⟩
  obtain ⟨hit, hPl⟩ : w.heap[b']? = some (.mapIter (some b) c (P'.map fun p => st.getD p 0).toArray c) ∧ ∀ p ∈ P', p < st.length := hh.at_ i _ hi
  have hlen : es'.length = es.length := by simpa using congrArg List.length hkeys
  have hil : i < hp.length := (List.getElem?_eq_some_iff.1 hi).1
  have hbl : b' < w.heap.size := (Array.getElem?_eq_some_iff.1 hit).1
  -- the step, told of any world
  have key : ((∀ e ∈ es', e.born ∈ (P'.map fun p => st.getD p 0)) ∧ (Instr.next (.pointer (some ⟨b', 0, none⟩)) false ty).run P w = .ok (.tuple #[.bool false]) w) ∨
      ∃ e ∈ es', e.born ∉ (P'.map fun p => st.getD p 0) ∧ ∃ n : Nat, (Instr.next (.pointer (some ⟨b', 0, none⟩)) false ty).run P w = .ok (.tuple #[.bool true, e.key, e.val]) { w with drawn := w.drawn + n, heap := w.heap.setIfInBounds b' (.mapIter (some b) c ((P'.map fun p => st.getD p 0) ++ [e.born]).toArray c) } := by
    have hold : ∀ x ∈ es', x.born < c := hstm.2
    generalize (P'.map fun p => st.getD p 0) = seenl at hit ⊢
    have hget : (getObj b' : Sem Obj).run P w = .ok (.mapIter (some b) c seenl.toArray c) w := by simp only [getObj, Sem.run, hit]
    have htest : (!seenl.toArray.isEmpty && !es'.toArray.isEmpty && es'.toArray.all (fun x => decide (x.born ≥ c))) = false := next_test_false seenl.toArray es'.toArray c c (fun x hx => hold x (by simpa using hx)) (Nat.le_refl _)
    have hLm : ∀ x ∈ (leftOf es'.toArray seenl.toArray).toList, x ∈ es' ∧ x.born ∉ seenl := fun x hx => by
      have := leftOf_mem hx
      simpa using this
    have hL0 : (leftOf es'.toArray seenl.toArray).size = 0 → ∀ e ∈ es', e.born ∈ seenl := fun h => by
      have := leftOf_none h
      simpa using this
    have hlf : leftOf es'.toArray seenl.toArray = Array.filter (fun e => !seenl.toArray.contains e.born) es'.toArray := rfl
    simp only [Instr.next, Sem.run_bind, hget, MapKept.run_getObj_map hb, Result.andThen, htest, Bool.false_eq_true, if_false]
    rw [← hlf]
    generalize leftOf es'.toArray seenl.toArray = L at hLm hL0 ⊢
    have e1 : L.filter (fun x => decide (x.born < c)) = L := Array.filter_eq_self.2 (fun x hx => by simpa using hold x (hLm x (by simpa using hx)).1)
    have e2 : L.filter (fun x => decide (x.born ≥ c)) = #[] := by
      rw [Array.filter_eq_empty_iff]
      intro x hx
      have := hold x (hLm x (by simpa using hx)).1
      simp
      omega
    simp only [e1, e2, Array.append_empty]
    by_cases h0 : L.size = 0
    · left
      have : L = #[] := Array.eq_empty_of_size_eq_zero h0
      refine ⟨hL0 h0, ?_⟩
      subst this
      simp [choose, Sem.run, Question.forced]
    · right
      have hne : L.isEmpty = false := by simp [Array.isEmpty, h0]
      simp only [hne, Bool.false_eq_true, if_false, Array.empty_append, Array.size_map]
      have hch : ∃ (q n : Nat), q < L.size ∧ (choose (Question.mapNext L.size)).run P w = .ok q { w with drawn := w.drawn + n } := by
        by_cases hf : L.size ≤ 1
        · exact ⟨0, 0, by omega, by simp [choose, Sem.run, Question.forced, hf]⟩
        · exact ⟨_, 1, Nat.mod_lt _ (by omega), by
            simp only [choose, Sem.run, Question.forced, decide_eq_true_eq, hf, if_false, Question.cut]
            rfl⟩
      obtain ⟨q, n, hq, hrun⟩ := hch
      have hmem := hLm L[q] (by simp)
      refine ⟨L[q], hmem.1, hmem.2, n, ?_⟩
      have hset : ∀ o' : Obj, (setObj b' o').run P { w with drawn := w.drawn + n } = .ok () { w with drawn := w.drawn + n, heap := w.heap.setIfInBounds b' o' } := fun o' => by
        simp only [setObj, Sem.run, hit]
      simp only [hrun, Array.getElem?_map, Array.getElem?_eq_getElem hq, Option.map_some, Sem.run_bind, hset, Result.andThen]
      simp
  rcases key with ⟨hall, hrun⟩ | ⟨e0, hm, hn, n, hrun⟩
  · have hrun2 : (execOp e ⟨d, .next x false, ty, pos, aft, g⟩).run P w = .ok (.value (.tuple #[.bool false])) w := by
      simp [execOp, h1, hrun]
    rw [hrun2]
    refine ⟨M, _, _, hdone (fun k hk => ?_), Ext.refl _ _, hh, by simp only [RA, RT, RTs]; exact ⟨[.bool false], rfl, _, _, rfl, rfl, rfl⟩⟩
    have hk' : k < es'.length := by omega
    have := hall es'[k] (List.getElem_mem hk')
    obtain ⟨p, hp, hpe⟩ := List.mem_map.1 this
    have hpl := hPl p hp
    rw [hst1, List.length_map] at hpl
    rw [hst1, List.getD_eq_getElem?_getD, List.getElem?_map, List.getElem?_eq_getElem hpl] at hpe
    have : p = k := nodup_map_inj hstm.1 hpl hk' hpe
    rw [← this]; exact hp
  · obtain ⟨k, hk, rfl⟩ := List.getElem_of_mem hm
    have hk2 : k < es.length := by omega
    have hkey : es'[k].key = es[k].1 := by
      have := congrArg (fun l => l[k]?) hkeys
      simpa [List.getElem?_map, List.getElem?_eq_getElem hk, List.getElem?_eq_getElem hk2] using this
    have hkP : k ∉ P' := fun h => hn (List.mem_map.2 ⟨k, h, by rw [hst1, List.getD_eq_getElem?_getD, List.getElem?_map, List.getElem?_eq_getElem hk]; rfl⟩)
    obtain ⟨u, hu1, hu2⟩ := hvals.get (j := k) (t := es[k].2) (by rw [List.getElem?_map, List.getElem?_eq_getElem hk2]; rfl)
    rw [List.getElem?_map, List.getElem?_eq_getElem hk] at hu1
    obtain rfl : es'[k].val = u := by simpa using hu1
    have hrun2 : (execOp e ⟨d, .next x false, ty, pos, aft, g⟩).run P w = .ok (.value (.tuple #[.bool true, es'[k].key, es'[k].val])) { w with drawn := w.drawn + n, heap := w.heap.setIfInBounds b' (.mapIter (some b) c ((P'.map fun p => st.getD p 0) ++ [es'[k].born]).toArray c) } := by
      simp [execOp, h1, hrun]
    rw [hrun2]
    refine ⟨M, _, _, hmore k es[k].1 es[k].2 (List.getElem?_eq_getElem hk2) hkP, Ext.refl _ _, ?_, by simp only [RA, RT, RTs]; exact ⟨[.bool true, es'[k].key, es'[k].val], rfl, _, _, rfl, rfl, _, _, rfl, hkey, _, _, rfl, hu2, rfl⟩⟩
    refine hh.step i rfl rfl rfl (by simp) (fun q hq hne => ?_) (Ext.refl _ _) (fun p v h1 h2 => by rw [h2] at h1; cases h1) (fun q hq => by rw [List.getElem?_set_ne (Ne.symm hq)]) (fun x' hx' => ?_)
    · have : q ≠ b' := fun e => hne _ hi (by rw [e]; rfl)
      simp [Array.getElem?_setIfInBounds, Ne.symm this]
    · rw [List.getElem?_set_self hil] at hx'
      obtain rfl : _ = x' := by injection hx'
      refine ⟨⟨?_, fun p hp => ?_⟩, fun q hq => .inl ⟨_, hi, hq⟩⟩
      · have : (P' ++ [k]).map (fun p => st.getD p 0) = (P'.map fun p => st.getD p 0) ++ [es'[k].born] := by
          rw [List.map_append, hst1]
          simp [List.getD_eq_getElem?_getD, List.getElem?_map, List.getElem?_eq_getElem hk]
        rw [this]
        simp [Array.getElem?_setIfInBounds, hbl]
      · rcases List.mem_append.1 hp with hp | hp
        · exact hPl p hp
        · rw [List.mem_singleton.1 hp, hst1, List.length_map]; exact hk
/-- an entry is taken out -/
theorem lo_mapDel {α : Type} [DecidableEq α] {κ : α → Value} {dk : TypeDesc} {t tk kT eT : TypeId} {x y : Operand} {i b : Nat} {l : List (α × T)} {k : α} (hκ : KeyIs dk κ) (hu : P.underlying t = some (.map kT eT)) (hk : P.underlying kT = some dk) (hx : ρ x = .own i (.map (some b))) (hi : hp[i]? = some (.mp b (mkeys κ l))) (hy : ρ y = .c (.lit (κ k)))
    (h : K (.c (.tup [])) (hp.set i (.mp b (mkeys κ (mdel k l))))) : LO P F ⟨d, .call { callee := .builtin .delete, args := #[x, y], argTypes := #[t, tk] }, ty, pos, aft, g⟩ ρ hp K := by
  refine ⟨fun M e w he hh => ?_⟩
  have h1 := he x (by first | (simp [Op.operands]; done) | simp [Op.operands, Call.operands])
  rw [hx] at h1
  simp only [RA] at h1
  have h2 := he y (by first | (simp [Op.operands]; done) | simp [Op.operands, Call.operands])
  rw [hy] at h2
  simp only [RA, RT] at h2
  obtain ⟨es, clock, hb, hkeys, hvals, hstm, hst⟩ := hh.at_ i _ hi
  have hkeys' : es.map (·.key) = l.map (fun p => κ p.1) := by rw [hkeys]; simp [mkeys]
  have hvals' : RTs M (l.map (·.2)) (es.map (·.val)) := by simpa [mkeys, Function.comp_def] using hvals
  have hlt : b < w.heap.size := (Array.getElem?_eq_some_iff.1 hb).1
  have hil : i < hp.length := (List.getElem?_eq_some_iff.1 hi).1
  obtain ⟨es', hrun, hke, hva, hsm⟩ : ∃ es' : List MapEntry, (execOp e ⟨d, .call { callee := .builtin .delete, args := #[x, y], argTypes := #[t, tk] }, ty, pos, aft, g⟩).run P w = .ok (.value (.tuple #[])) { w with heap := w.heap.setIfInBounds b (.map es'.toArray clock) } ∧ es'.map (·.key) = (mkeys κ (mdel k l)).map (·.1) ∧ RTs M ((mkeys κ (mdel k l)).map (·.2)) (es'.map (·.val)) ∧ Stm es' clock := by
    rcases find_del hκ k l es 0 hkeys' with ⟨f1, f2⟩ | ⟨j, e', f1, f2, f3⟩
    · refine ⟨es, ?_, ?_, ?_, hstm⟩
      · simp [execOp, resolve, invoke, builtin, Builtin.delete_, h1.1, h2, run_underlying hu, MapKept.run_getObj_map hb, MapKept.run_checkKey hk (hκ.is k), MapKept.run_findKey hk f1, MapKept.run_setObj_map _ hb]
      · rw [f2, hkeys]
      · rw [f2]; exact hvals
    · refine ⟨es.eraseIdx j, ?_, ?_, ?_, ⟨?_, ?_⟩⟩
      · simp [execOp, resolve, invoke, builtin, Builtin.delete_, h1.1, h2, run_underlying hu, MapKept.run_getObj_map hb, MapKept.run_checkKey hk (hκ.is k), MapKept.run_findKey hk f1, MapKept.run_setObj_map _ hb]
      · rw [f3]
        simp only [mkeys, List.map_map]
        rw [map_erase, map_erase, hkeys']
        rfl
      · rw [f3]
        simp only [mkeys, List.map_map]
        rw [map_erase, map_erase]
        exact RTs.erase j (by simpa [Function.comp_def] using hvals')
      · rw [map_erase]
        exact hstm.1.sublist (List.eraseIdx_sublist _ _)
      · intro q hq
        exact hstm.2 q (List.eraseIdx_sublist _ _ |>.subset hq)
  rw [hrun]
  refine ⟨M, _, _, h, Ext.refl _ _, ?_, by simp only [RA, RT, RTs]; exact ⟨[], rfl, rfl⟩⟩
  refine hh.step i rfl rfl rfl (by simp) (fun c hc hne => ?_) (Ext.refl _ _) (fun p v h1 h2 => by rw [h2] at h1; cases h1) (fun j hj => by rw [List.getElem?_set_ne (Ne.symm hj)]) (fun x' hx' => ?_)
  · have : c ≠ b := fun e => hne _ hi (by rw [e]; rfl)
    simp [Array.getElem?_setIfInBounds, Ne.symm this]
  · rw [List.getElem?_set_self hil] at hx'
    obtain rfl : Blk.mp b (mkeys κ (mdel k l)) = x' := by injection hx'
    exact ⟨⟨es', clock, by simp [Array.getElem?_setIfInBounds, hlt], hke, hva, hsm, fun s hs => by cases hs⟩, fun b' hb' => .inl ⟨_, hi, hb'⟩⟩
end
section
variable {P : Program} {F : Frm} {d : Option Tmp} {ty : TypeId} {pos : String} {aft : Array Edge} {g : Option (Nat × Bool)} {ρ : Operand → AV} {hp : List Blk} {K : AV → List Blk → Prop}
theorem zRg (kT eT : TypeId) {xT : TypeId} {x : Operand} {i b n : Nat} {es : List (Value × T)} {hp' : Nat → List Nat → Nat → List Blk} (h : ∀ b' st c, st.length = es.length → K (.ptr n b' 0) (hp' b' st c)) (hu : isMap P xT = some (kT, eT) := by kernel_rfl) (hn : lenU hp = some n := by exact rfl) (hx : ρ x = .own i (.map (some b)) := by exact rfl) (hi : hp[i]? = some (.mp b es) := by exact rfl)
    (hf : ∀ b' st c, evl (hp.set i (.mpx b es (some (st, c))) ++ [.it b' b st c []]) = some (hp' b' st c) := by exact fun _ _ _ => rfl) : LO P F ⟨d, .range xT x, ty, pos, aft, g⟩ ρ hp K :=
  lo_range (isMap_eq hu) hx hi fun b' st c hl => by rw [← evl_eq (hf b' st c), ← lenU_eq hn]; exact h b' st c hl
theorem zNx {x : Operand} {i b b' c : Nat} {es : List (Value × T)} {st P' : List Nat} {hp' : Nat → List Blk} (j : Nat) (hdone : (∀ k, k < es.length → k ∈ P') → K (.c (.tup [.lit (.bool false)])) hp)
    (hmore : ∀ (k : Nat) (u : Value) (t : T), es[k]? = some (u, t) → k ∉ P' → K (.c (.tup [.lit (.bool true), .lit u, t])) (hp' k)) (hx : ρ x = .ptr i b' 0 := by exact rfl) (hi : hp[i]? = some (.it b' b st c P') := by exact rfl) (hj : hp[j]? = some (.mpx b es (some (st, c))) := by exact rfl)
    (hf : ∀ k, evl (hp.set i (.it b' b st c (P' ++ [k]))) = some (hp' k) := by exact fun _ => rfl) : LO P F ⟨d, .next x false, ty, pos, aft, g⟩ ρ hp K :=
  lo_next hx hi hj hdone fun k u t h1 h2 => by rw [← evl_eq (hf k)]; exact hmore k u t h1 h2
theorem zDels (kT eT : TypeId) {t tk : TypeId} {x y : Operand} {i b : Nat} {s : ByteArray} {l : List (ByteArray × T)} {hp' : List Blk} (h : K (.c (.tup [])) hp') (hu : isMap P t = some (kT, eT) := by kernel_rfl) (hk : P.underlying kT = some .string := by kernel_rfl) (hx : ρ x = .own i (.map (some b)) := by exact rfl) (hi : hp[i]? = some (.mp b (mkeys Value.string l)) := by exact rfl) (hy : ρ y = .c (.lit (.string s)) := by exact rfl) (hf : evl (hp.set i (.mp b (mkeys Value.string (mdel s l)))) = some hp' := by exact rfl) :
    LO P F ⟨d, .call { callee := .builtin .delete, args := #[x, y], argTypes := #[t, tk] }, ty, pos, aft, g⟩ ρ hp K := lo_mapDel keyStr (isMap_eq hu) hk hx hi hy (by rw [← evl_eq hf]; exact h)
end
theorem heap_unit {F : Frm} {M : Mm} {hp : List Blk} {w : World} {i b : Nat} {es : List (Value × T)} {o : Option (List Nat × Nat)} (h : HeapOk F M hp w) (hi : hp[i]? = some (.mpx b es o)) : HeapOk F M (hp.set i (.mp b es)) w := by
  have hil : i < hp.length := (List.getElem?_eq_some_iff.1 hi).1
  have hg : ∀ (j : Nat) (x : Blk), (hp.set i (.mp b es))[j]? = some x → ∃ y, hp[j]? = some y ∧ x.blk = y.blk ∧ BlkOk M w x := by
    intro j x hj
    by_cases hij : i = j
    · subst hij
      rw [List.getElem?_set_self hil] at hj
      obtain rfl : _ = x := by injection hj
      obtain ⟨l, clock, h1, h2, h3, h4, -⟩ := h.at_ i _ hi
      exact ⟨_, hi, rfl, ⟨l, clock, h1, h2, h3, h4, fun s hs => by cases hs⟩⟩
    · rw [List.getElem?_set_ne hij] at hj
      exact ⟨x, hj, rfl, h.at_ j x hj⟩
  refine ⟨h.mem, h.ext, h.frm, fun j x hj => (hg j x hj).choose_spec.2.2, fun j k x y q hj hk hx hy => ?_, fun j x q hj hq => ?_⟩
  · obtain ⟨x', h3, h4, -⟩ := hg j x hj
    obtain ⟨y', h5, h6, -⟩ := hg k y hk
    exact h.sep j k x' y' q h3 h5 (by rw [← h4]; exact hx) (by rw [← h6]; exact hy)
  · obtain ⟨x', h3, h4, -⟩ := hg j x hj
    exact h.out j x' q h3 (by rw [← h4]; exact hq)
section
variable {P : Program} {F : Frm} {τ : Nat → AV} {hp : List Blk} {N : Nat} {Q : Exit → AS → Prop}
theorem wk_unit (i : Nat) {b : Nat} {es : List (Value × T)} {o : Option (List Nat × Nat)} (hi : hp[i]? = some (.mpx b es o)) : Wk F ⟨τ, hp, N⟩ ⟨τ, hp.set i (.mp b es), N⟩ := by
  intro M a w hr
  exact ⟨M, hr.tmps, hr.size, hr.defers, heap_unit hr.heap hi⟩
theorem x_unit {c : Go.Code} (i : Nat) {b : Nat} {es : List (Value × T)} {o : Option (List Nat × Nat)} {hp' : List Blk} (hq : AC P F c Q ⟨τ, hp', N⟩) (hi : hp[i]? = some (.mpx b es o) := by exact rfl) (hf : evl (hp.set i (.mp b es)) = some hp' := by exact rfl) : AC P F c Q ⟨τ, hp, N⟩ := ac_wk (wk_unit i hi) (by rw [← evl_eq hf]; exact hq)
end
end Go.Proofs.Ytnkafjkcjpajgaa
