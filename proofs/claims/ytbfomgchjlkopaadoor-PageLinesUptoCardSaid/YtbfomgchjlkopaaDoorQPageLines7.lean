/-
  Texts of this proof, part 7: Ab30 Ab32 Ab33 Ab34 Ab35 Ab37 Ab38 Ab40 NamePlain Tka Ab44 Psc Psd Pse Vsk.
-/
import Derived.Test.YtbfomgchjlkopaaDoorQPageLines6
import Derived.Laws.IdiomRangeMap
import Derived.Lib.AppendZerosOnto
import Derived.MapKept
import Derived.Shelf.SlIter.Nil
import Derived.Shelf.SortM.Plain
import Derived.Shelf.SortM.SortNone
import Derived.Sort.Walk0
import Derived.Test.YtbfomgchjlkopaaDoorProg
namespace Go.Proofs.YtbfomgchjlkopaaDoor
open Go.RowKit
section
variable {P : Program} {F : Frm} {L : Tab} {d : Option Tmp} {ty : TypeId} {pos : String} {aft : Array Edge} {g : Option (Nat × Bool)} {ρ : Operand → AV} {hp : List Blk} {K : AV → List Blk → Prop}
theorem own_turn {M : Mm} {w : World} (hh : HeapOk F M hp w) {i n n' sz : Nat} {v v' : Value} {e : TypeId} {cs cs' : List T} (hi : hp[i]? = some (.row v e sz n cs)) (hb : ∀ b, v'.ownBlock = some b → v.ownBlock = some b) (hx : BlkOk M w (.row v' e sz n' cs')) : HeapOk F M (hp.set i (.row v' e sz n' cs')) w := by
  refine hh.step i rfl rfl rfl (Nat.le_refl _) (fun _ _ _ => rfl) (Ext.refl _ _) (fun p v h1 h2 => by rw [h2] at h1; cases h1) (fun j hj => by rw [List.getElem?_set_ne (Ne.symm hj)]) (fun x' hx' => ?_)
  have hlt : i < hp.length := (List.getElem?_eq_some_iff.1 hi).1
  rw [List.getElem?_set_self hlt] at hx'
  obtain rfl : Blk.row v' e sz n' cs' = x' := by injection hx'
  exact ⟨hx, fun b hb' => .inl ⟨_, hi, hb b hb'⟩⟩
theorem lo_own_hi (hL : TabOk P L) {t el : TypeId} {ti te : TI} {x y : Operand} {i n sz : Nat} {v : Value} {e : TypeId} {cs : List T} {k : IntKind} {z : Int} (l : Nat) (hl : l ≤ n) (hx : ρ x = .own i v) (hi : hp[i]? = some (.row v e sz n cs)) (hy : ρ y = .c (.lit (.int k z))) (hz : z = (l : Int)) (ht : L.look t = some ti) (hd : ti.d = .slice el) (hte : L.look el = some te) (hsz : te.size = sz)
    (h : ∀ v', K (.own i v') (hp.set i (.row v' e sz l (cs.take (l * sz))))) : LO P F ⟨d, .slice t x none (some y) none, ty, pos, aft, g⟩ ρ hp K := by
  refine ⟨fun M ev w he hh => ?_⟩
  have h1 := he x (by simp [Op.operands])
  rw [hx] at h1
  simp only [RA] at h1
  have h2 := he y (by simp [Op.operands])
  rw [hy] at h2
  simp only [RA, RT] at h2
  obtain ⟨xs, ho, hxs, hone, h0⟩ := hh.at_ i _ hi
  obtain ⟨A, c, rfl, hnc, hcm⟩ := ownO_shape ho
  subst hz
  have hb := run_sliceBound (P := P) (w := w) k (l : Int) c .sliceAcap (by omega) (by omega)
  have hr : (execOp ev ⟨d, .slice t x none (some y) none, ty, pos, aft, g⟩).run P w = .ok (.value (.slice A l c)) w := by
    have hz : (if c = 0 then A else A.map (·.add 0)) = A := by
      cases A with
      | none => split <;> rfl
      | some ad => split <;> simp [add_zero']
    simp [execOp, Instr.sliceAt, Instr.slice, Instr.sliceBounds, h1.1, h2, run_underlying (hL.slice ht hd), hL.sizeOf hte, hb, hsz]
    first | done | exact hz | simpa using hz
  rw [hr]
  have hd := ho.take hl
  exact ⟨M, _, _, h (.slice A l c), Ext.refl _ _, own_turn hh hi (fun b hb => by cases A <;> exact hb) ⟨_, hd, hxs.take _, fun x hx => hone x (List.mem_of_mem_take hx), h0⟩, by simp only [RA]; exact ⟨trivial, own_oneO hd⟩⟩
theorem zQh {t el : TypeId} {ti te : TI} {x y : Operand} {i n sz : Nat} {v : Value} {e : TypeId} {cs : List T} {k : IntKind} {z : Int} {hp' : Value → List Blk} (l : Nat) (hl : l ≤ n) (h : ∀ v', K (.own i v') (hp' v')) (hz : z = (l : Int) := by exact rfl) (hL : TabOk P L := by exact tok) (hx : ρ x = .own i v := by exact rfl) (hi : hp[i]? = some (.row v e sz n cs) := by exact rfl) (hy : ρ y = .c (.lit (.int k z)) := by exact rfl) (ht : L.look t = some ti := by exact rfl) (hd : ti.d = .slice el := by exact rfl) (hte : L.look el = some te := by exact rfl) (hsz : te.size = sz := by exact rfl)
    (hf : ∀ v', evl (hp.set i (.row v' e sz l (cs.take (l * sz)))) = some (hp' v') := by exact fun _ => rfl) : LO P F ⟨d, .slice t x none (some y) none, ty, pos, aft, g⟩ ρ hp K :=
  lo_own_hi hL l hl hx hi hy hz ht hd hte hsz fun v' => by rw [← evl_eq (hf v')]; exact h v'
end
end Go.Proofs.YtbfomgchjlkopaaDoor
namespace Go.Proofs.YtbfomgchjlkopaaDoor
open Go.RowKit
section
variable {P : Program} {F : Frm} {Q : Exit → AS → Prop} {τ : Nat → AV} {hp : List Blk} {N : Nat}
/-- what a slot holds, said otherwise -/
theorem wk_as (s : Nat) (v : AV) (h : ∀ M u, RA M (τ s) u → RA M v u) : Wk F ⟨τ, hp, N⟩ ⟨upd N s v τ, hp, N⟩ := by
  intro M a w hr
  refine ⟨M, fun i => ?_, hr.size, hr.defers, hr.heap⟩
  have := hr.tmps i
  simp only [upd] at this ⊢
  cases hc : Nat.beq i s with
  | false => simp only [Bool.false_and, cond_false]; exact this
  | true =>
    obtain rfl := Nat.eq_of_beq_eq_true hc
    cases hN : Nat.blt i N with
    | false => simp only [Bool.and_false, cond_false]; exact this
    | true => simp only [Bool.and_true, cond_true]; exact h M _ this
end
theorem drop_flat {α β : Type} {f : α → List β} {sz : Nat} (hf : ∀ a, (f a).length = sz) : ∀ (m : Nat) (l : List α), (l.flatMap f).drop (m * sz) = (l.drop m).flatMap f
  | 0, l => by simp
  | m + 1, [] => by simp
  | m + 1, a :: l => by
    rw [List.flatMap_cons, List.drop_succ_cons, ← drop_flat hf m l, show (m + 1) * sz = (f a).length + m * sz by rw [hf a, Nat.succ_mul]; omega, List.drop_length_add_append]
theorem take_flat {α β : Type} {f : α → List β} {sz : Nat} (hf : ∀ a, (f a).length = sz) : ∀ (m : Nat) (l : List α), (l.flatMap f).take (m * sz) = (l.take m).flatMap f
  | 0, l => by simp
  | m + 1, [] => by simp
  | m + 1, a :: l => by
    rw [List.flatMap_cons, List.take_succ_cons, List.flatMap_cons, ← take_flat hf m l, show (m + 1) * sz = (f a).length + m * sz by rw [hf a, Nat.succ_mul]; omega, List.take_length_add_append]
theorem len_flat {α β : Type} {f : α → List β} {sz : Nat} (hf : ∀ a, (f a).length = sz) (l : List α) : (l.flatMap f).length = l.length * sz := by
  induction l with
  | nil => simp
  | cons a l ih => rw [List.flatMap_cons, List.length_append, ih, hf a, List.length_cons, Nat.succ_mul]; omega
section
variable {P : Program} {L : Tab} {F : Frm} {d : Option Tmp} {ty : TypeId} {pos : String} {aft : Array Edge} {g : Option (Nat × Bool)} {ρ : Operand → AV} {hp : List Blk} {K : AV → List Blk → Prop}
theorem zPlf {α : Type} {f : α → List T} {l : List α} {t el : TypeId} {ti te : TI} {x y : Operand} {sz : Nat} {k : IntKind} {z : Int} (m : Nat) (hm : m ≤ l.length) (hf : ∀ a, (f a).length = sz) (hK : K (.c (.row (l.drop m).length sz ((l.drop m).flatMap f))) hp) (hz : z = (m : Int) := by exact rfl) (hL : TabOk P L := by exact tok) (hx : ρ x = .c (.row l.length sz (l.flatMap f)) := by exact rfl) (hy : ρ y = .c (.lit (.int k z)) := by exact rfl) (ht : L.look t = some ti := by exact rfl) (hd : ti.d = .slice el := by exact rfl) (hte : L.look el = some te := by exact rfl) (hsz : te.size = sz := by exact rfl) :
    LO P F ⟨d, .slice t x (some y) none none, ty, pos, aft, g⟩ ρ hp K := by
  refine lo_part_lo hL m hm hx hy hz ht hd hte hsz ?_
  rw [drop_flat hf m l, List.take_of_length_le (by rw [len_flat hf, List.length_drop]; exact Nat.le_refl _), ← List.length_drop]
  exact hK
theorem zPhf {α : Type} {f : α → List T} {l : List α} {t el : TypeId} {ti te : TI} {x y : Operand} {sz : Nat} {k : IntKind} {z : Int} (m : Nat) (hm : m ≤ l.length) (hf : ∀ a, (f a).length = sz) (hK : K (.c (.row (l.take m).length sz ((l.take m).flatMap f))) hp) (hz : z = (m : Int) := by exact rfl) (hL : TabOk P L := by exact tok) (hx : ρ x = .c (.row l.length sz (l.flatMap f)) := by exact rfl) (hy : ρ y = .c (.lit (.int k z)) := by exact rfl) (ht : L.look t = some ti := by exact rfl) (hd : ti.d = .slice el := by exact rfl) (hte : L.look el = some te := by exact rfl) (hsz : te.size = sz := by exact rfl) :
    LO P F ⟨d, .slice t x none (some y) none, ty, pos, aft, g⟩ ρ hp K := by
  refine lo_part_hi hL m hm hx hy hz ht hd hte hsz ?_
  rw [take_flat hf m l]
  have h : (l.take m).length = m := by rw [List.length_take]; omega
  rw [h] at hK
  exact hK
end
end Go.Proofs.YtbfomgchjlkopaaDoor
namespace Go.Proofs.YtbfomgchjlkopaaDoor
open Go.RowKit
section
variable {md : Region.Mode} {ops : Array Oper} {cls : Nat → Nat}
/-- m says, bit by bit, for whom each operation waits -/
def claimB (md : Region.Mode) (ops : Array Oper) (m : List Nat) : Bool :=
  (List.range ops.size).all fun j => (List.range ops.size).all fun i => !(m.getD j 0).testBit i ||
    (match ops[j]? with
      | some oj => oj.after.any fun e => Region.binds md e && (e.on == i || (Nat.blt e.on j && (m.getD e.on 0).testBit i))
      | none => false)
theorem claim_reach {m : List Nat} (h : claimB md ops m = true) {i : Nat} (hi : i < ops.size) : ∀ (f j : Nat), j < f → j < ops.size → (m.getD j 0).testBit i = true → reachB md ops f j i = true
  | 0, _, h0, _, _ => by omega
  | f + 1, j, hf, hj, hb => by
    have h1 := List.all_eq_true.1 (List.all_eq_true.1 h j (List.mem_range.2 hj)) i (List.mem_range.2 hi)
    rw [hb] at h1
    simp only [Bool.not_true, Bool.false_or] at h1
    unfold reachB
    split at h1
    · rename_i oj hoj
      rw [hoj]
      obtain ⟨e, he, hq⟩ := Array.any_eq_true'.1 h1
      refine Array.any_eq_true'.2 ⟨e, he, ?_⟩
      simp only [Bool.and_eq_true, Bool.or_eq_true, beq_iff_eq] at hq ⊢
      refine ⟨hq.1, hq.2.imp id fun h2 => ?_⟩
      have hlt : e.on < j := by simpa using h2.1
      exact claim_reach h hi f e.on (by omega) (by omega) h2.2
    · cases h1
def freeC (ops : Array Oper) (cls : Nat → Nat) (m : List Nat) (listed : Array Bool) (i : Nat) : Bool :=
  match ops[i]? with
  | none => false
  | some oi => (List.range ops.size).all fun j => j == i || listed.getD j true || (m.getD j 0).testBit i ||
      (match ops[j]? with | some oj => oi.apart ops oj && (cls j != 2 || cls i == 0) | none => true)
theorem freeC_A {m : List Nat} (h : claimB md ops m = true) {listed : Array Bool} {i : Nat} (hf : freeC ops cls m listed i = true) : freeA md ops cls listed i = true := by
  unfold freeC at hf
  unfold freeA
  split at hf
  · cases hf
  · rename_i oi hoi
    rw [hoi]
    refine List.all_eq_true.2 fun j hj => ?_
    have h1 := List.all_eq_true.1 hf j hj
    simp only [Bool.or_eq_true] at h1 ⊢
    rcases h1 with ((h1 | h1) | h1) | h1
    · exact .inl (.inl (.inl h1))
    · exact .inl (.inl (.inr h1))
    · exact .inl (.inr (claim_reach h (Array.getElem?_eq_some_iff.1 hoi).1 _ j (List.mem_range.1 hj) (List.mem_range.1 hj) h1))
    · exact .inr h1
def ordC (md : Region.Mode) (ops : Array Oper) (cls : Nat → Nat) (m : List Nat) : List Nat → Array Bool → Bool
  | [], listed => (Region.ready md ops listed).isEmpty
  | i :: r, listed => (if 2 ≤ cls i then decide (Region.ready md ops listed = [i]) else (Region.ready md ops listed).contains i && freeC ops cls m listed i) && ordC md ops cls m r (listed.setIfInBounds i true)
theorem ordC_B {m : List Nat} (h : claimB md ops m = true) : ∀ (r : List Nat) (listed : Array Bool), ordC md ops cls m r listed = true → ordB md ops cls r listed = true
  | [], listed, ho => ho
  | i :: r, listed, ho => by
    simp only [ordC, ordB, Bool.and_eq_true] at ho ⊢
    refine ⟨?_, ordC_B h r _ ho.2⟩
    by_cases h2 : 2 ≤ cls i
    · rw [if_pos h2] at ho ⊢; exact ho.1
    · rw [if_neg h2] at ho ⊢
      have h3 := ho.1
      simp only [Bool.and_eq_true] at h3 ⊢
      exact ⟨h3.1, freeC_A h h3.2⟩
end
section
variable {P : Program} {F : Frm} {τ : Nat → AV} {hp : List Blk} {N : Nat} {Q : Exit → AS → Prop} {id : Nat} {l : List Oper}
theorem ac_drawB (m c r : List Nat) (hm : P.follows .mixedOrders = true) (hB : (claimB .any l.toArray m && (ordC .any l.toArray (clsOf c) m r (Array.replicate l.toArray.size false) && Nat.beq r.length l.length)) = true)
    (h : WO P F l.toArray N (clsOf c) (fun τ' hp' => Q .normal ⟨τ', hp', N⟩) r τ hp) : AC P F (.region id l.toArray true) Q ⟨τ, hp, N⟩ := by
  simp only [Bool.and_eq_true] at hB
  refine ac_draw c r hm ?_ h
  simp only [Bool.and_eq_true]
  exact ⟨ordC_B hB.1 _ _ hB.2.1, hB.2.2⟩
end
section
variable {P : Program} {F : Frm} {d : Option Tmp} {ty : TypeId} {pos : String} {aft : Array Edge} {g : Option (Nat × Bool)} {ρ : Operand → AV} {hp : List Blk} {K : AV → List Blk → Prop}
/-- the sum of two counts -/
theorem zAn {t t' : TypeId} {x y : Operand} {a b : Nat} (h : K (.c (.lit (.int .i64 ((a + b : Nat) : Int)))) hp) (hx : ρ x = .c (.lit (.int .i64 (a : Nat))) := by exact rfl) (hy : ρ y = .c (.lit (.int .i64 (b : Nat))) := by exact rfl) (hb : a + b ≤ 9223372036854775807 := by first | omega | (dsimp only at *; omega)) : LO P F ⟨d, .binOp .add t x y t', ty, pos, aft, g⟩ ρ hp K :=
  lo_add hx hy (by rw [IntWalk.i64_in _ (by omega)]; omega) h
end
end Go.Proofs.YtbfomgchjlkopaaDoor
namespace Go.Proofs.YtbfomgchjlkopaaDoor
open Go.RowKit
theorem lits_rt (M : Mm) : ∀ l : List Value, RTs M (l.map T.lit) l
  | [] => by simp only [List.map_nil, RTs]
  | v :: l => by simp only [List.map_cons, RTs]; exact ⟨v, l, rfl, by simp only [RT], lits_rt M l⟩
end Go.Proofs.YtbfomgchjlkopaaDoor
namespace Go.Proofs.YtbfomgchjlkopaaDoor
open Go.RowKit
section
variable {P : Program} {F : Frm} {L : Tab} {d : Option Tmp} {ty : TypeId} {pos : String} {aft : Array Edge} {g : Option (Nat × Bool)} {ρ : Operand → AV} {hp : List Blk} {K : AV → List Blk → Prop}
/-- the part of an own row from the l-th element on, asq a value -/
def subV (v : Value) (l sz : Nat) : Value := match v with
  | .slice A n c => .slice (if c = l then A else A.map (·.add (l * sz))) (n - l) (c - l)
  | u => u
theorem zQs {t el : TypeId} {ti te : TI} {x y : Operand} {i n sz : Nat} {v : Value} {e : TypeId} {cs : List T} {k : IntKind} {z : Int} (l : Nat) (hl : l ≤ n) (h : K (.c (.lit (subV v l sz))) hp) (hz : z = (l : Int) := by exact rfl) (hL : TabOk P L := by exact tok) (hx : ρ x = .own i v := by exact rfl) (hi : hp[i]? = some (.row v e sz n cs) := by exact rfl) (hy : ρ y = .c (.lit (.int k z)) := by exact rfl) (ht : L.look t = some ti := by exact rfl) (hd : ti.d = .slice el := by exact rfl) (hte : L.look el = some te := by exact rfl) (hsz : te.size = sz := by exact rfl) : LO P F ⟨d, .slice t x (some y) none none, ty, pos, aft, g⟩ ρ hp K := by
  refine ⟨fun M ev w he hh => ?_⟩
  have h1 := he x (by simp [Op.operands])
  rw [hx] at h1
  simp only [RA] at h1
  have h2 := he y (by simp [Op.operands])
  rw [hy] at h2
  simp only [RA, RT] at h2
  obtain ⟨xs, ho, hxs, hone, h0⟩ := hh.at_ i _ hi
  obtain ⟨A, c, rfl, hnc, hcm⟩ := ownO_shape ho
  subst hz
  have hb := run_sliceBound (P := P) (w := w) k (l : Int) n .sliceB (by omega) (by omega)
  have hr : (execOp ev ⟨d, .slice t x (some y) none none, ty, pos, aft, g⟩).run P w = .ok (.value (.slice (if c = l then A else A.map (·.add (l * sz))) (n - l) (c - l))) w := by
    simp [execOp, Instr.sliceAt, Instr.slice, Instr.sliceBounds, h1.1, h2, run_underlying (hL.slice ht hd), hL.sizeOf hte, hb, hsz]
  rw [hr]
  exact ⟨M, _, hp, h, Ext.refl _ _, hh, by simp only [RA, RT, subV]⟩
theorem zeroCells_one {z : Array Value} (h : OneAll z.toList) (hz : 0 < z.size) (n : Nat) : OneAll (Builtin.zeroCells z n).toList := by
  intro u hu
  simp only [Builtin.zeroCells, Array.toList_map, List.mem_map, Array.mem_toList_iff, Array.mem_range] at hu
  obtain ⟨j, hj, rfl⟩ := hu
  have hm : j % z.size < z.size := Nat.mod_lt _ hz
  rw [getElem!_pos z _ hm]
  exact h _ (Array.getElem_mem_toList hm)
theorem set_same {α : Type} {l : List α} {i : Nat} {a : α} (h : l[i]? = some a) : l.set i a = l := by
  apply List.ext_getElem?
  intro j
  rw [List.getElem?_set]
  by_cases hij : i = j
  · subst hij
    rw [if_pos rfl, if_pos (List.getElem?_eq_some_iff.1 h).1, h]
  · rw [if_neg hij]
theorem lo_clear (hL : TabOk P L) {t el : TypeId} {ti te : TI} {x : Operand} {i n sz l : Nat} {v : Value} {cs : List T} (hl : l ≤ n) (hx : ρ x = .c (.lit (subV v l sz))) (hi : hp[i]? = some (.row v el sz n cs)) (ht : L.look t = some ti) (hd : ti.d = .slice el) (hte : L.look el = some te) (hsz : te.size = sz)
    (h : ∀ us : List T, us.length = (n - l) * sz → K (.c (.tup [])) (hp.set i (.row v el sz n (spl cs (l * sz) us)))) : LO P F ⟨d, .call { callee := .builtin .clear, args := #[x], argTypes := #[t] }, ty, pos, aft, g⟩ ρ hp K := by
  subst hsz
  refine ⟨fun M e w he hh => ?_⟩
  have hax := he x (by first | (simp [Op.operands]; done) | simp [Op.operands, Call.operands])
  rw [hx] at hax
  simp only [RA, RT] at hax
  obtain ⟨xs, how, hxs, hone, hsz⟩ := hh.at_ i _ hi
  obtain ⟨zv, hzv, hzc, hzs, hz1⟩ := hL.zero hte
  by_cases hnl : n - l = 0
  · obtain ⟨A, c, rfl, hnc, hcm⟩ := ownO_shape how
    have hrun : (execOp e ⟨d, .call { callee := .builtin .clear, args := #[x], argTypes := #[t] }, ty, pos, aft, g⟩).run P w = .ok (.value (.tuple #[])) w := by
      simp [execOp, resolve, invoke, builtin, Builtin.clear_, hax, subV, hnl, run_underlying (hL.slice ht hd)]
      split <;> simp_all
    rw [hrun]
    have hk := h [] (by rw [hnl]; simp)
    have hsp : spl cs (l * te.size) ([] : List T) = cs := rfl
    rw [hsp, set_same hi] at hk
    exact ⟨M, _, hp, hk, Ext.refl _ _, hh, by simp only [RA, RT, RTs]; exact ⟨[], rfl, rfl⟩⟩
  rcases how.2 with ⟨_, h0⟩ | ⟨g', o', cap, cur, hv, hg, hnc, hcm, hcur, htk⟩
  · omega
  subst hv
  have hcl : cap ≠ l := by omega
  have hlen := hxs.len
  have hxl := how.1
  obtain ⟨Z, hZ⟩ : ∃ Z, Z = (Builtin.zeroCells zv.cells (n - l)).toList := ⟨_, rfl⟩
  have hZl : Z.length = (n - l) * te.size := by rw [hZ, Array.length_toList, size_zeroCells, hzs]
  have hZ1 : OneAll Z := by rw [hZ]; exact zeroCells_one (by rw [hzc]; exact hz1) (by rw [hzs]; omega) _
  have hmul : l * te.size + (n - l) * te.size = n * te.size := by rw [← Nat.add_mul]; congr 1; omega
  have hoff : l * te.size + Z.length ≤ xs.length := by rw [hZl, hxl]; omega
  have hcl2 : o' + xs.length ≤ cur.size := by rw [hxl]; have := Nat.mul_le_mul_right te.size hnc; omega
  have hst := run_storeCells_at (P := P) g' (o' + l * te.size) el Z 0 cur w hg (by simp at hoff ⊢; omega) hZ1
  have hrun : (execOp e ⟨d, .call { callee := .builtin .clear, args := #[x], argTypes := #[t] }, ty, pos, aft, g⟩).run P w = .ok (.value (.tuple #[])) (w.setRow g' (spl cur.toList (o' + l * te.size) Z).toArray) := by
    rw [spl_eq _ _ _ (by simp at hoff ⊢; omega)]
    have hadd : (⟨g', o', none⟩ : Addr).add (l * te.size) = ⟨g', o' + l * te.size, none⟩ := by rw [box_add]
    have hsv : subV (.slice (some ⟨g', o', none⟩) n cap) l te.size = .slice (some ⟨g', o' + l * te.size, none⟩) (n - l) (cap - l) := by simp [subV, hcl, hadd]
    rw [hsv] at hax
    obtain ⟨m, hm⟩ : ∃ m, n - l = m + 1 := ⟨n - l - 1, by omega⟩
    rw [hm] at hax hZ
    simp [execOp, resolve, invoke, builtin, Builtin.clear_, hax, run_underlying (hL.slice ht hd), hzv, ← hZ] at hst ⊢
    simp [hst]
  rw [hrun]
  have hblk := setRow_heap w g' cur (spl cur.toList (o' + l * te.size) Z).toArray el _ hg
  refine ⟨M, _, _, h (Z.map T.lit) (by rw [List.length_map, hZl]), Ext.refl _ _, ?_, by simp only [RA, RT, RTs]; exact ⟨[], rfl, rfl⟩⟩
  refine hh.step i rfl rfl rfl (by simp [World.setRow]) (fun k hk hne => ?_) (Ext.refl _ _) (fun p v h1 h2 => by rw [h2] at h1; cases h1) (fun j hj => by rw [List.getElem?_set_ne (Ne.symm hj)]) (fun x' hx' => ?_)
  · have : k ≠ g' := fun e => hne _ hi (by rw [e]; rfl)
    simp [World.setRow, Array.getElem?_modify, Ne.symm this]
  · have hlt : i < hp.length := (List.getElem?_eq_some_iff.1 hi).1
    rw [List.getElem?_set_self hlt] at hx'
    obtain rfl : Blk.row (.slice (some ⟨g', o', none⟩) n cap) el te.size n (spl cs (l * te.size) (Z.map T.lit)) = x' := by injection hx'
    refine ⟨⟨spl xs (l * te.size) Z, ⟨by rw [spl_len]; exact hxl, .inr ⟨g', o', cap, (spl cur.toList (o' + l * te.size) Z).toArray, rfl, hblk, hnc, hcm, by simpa [spl_len] using hcur, ?_⟩⟩, RTs.spl hxs (lits_rt M Z), spl_one hone hZ1, hsz⟩, fun b' hb' => .inl ⟨_, hi, hb'⟩⟩
    simp only
    rw [spl_eq _ _ _ (by simp at hoff ⊢; omega), spl_eq _ _ _ hoff, ← htk]
    have hk : l * te.size + Z.length ≤ n * te.size := by rw [← hxl]; exact hoff
    have hcl3 : o' + n * te.size ≤ cur.toList.length := by rw [hxl] at hcl2; simpa using hcl2
    rw [drop_spl cur.toList Z o' (l * te.size) (by omega)]
    exact take_spl (cur.toList.drop o') Z (l * te.size) (n * te.size) hk (by rw [List.length_drop]; omega)
theorem zClr {t el : TypeId} {ti te : TI} {x : Operand} {n sz : Nat} {v : Value} {cs : List T} {hp' : List T → List Blk} (i l : Nat) (hl : l ≤ n) (h : ∀ us : List T, us.length = (n - l) * sz → K (.c (.tup [])) (hp' us)) (hL : TabOk P L := by exact tok) (hx : ρ x = .c (.lit (subV v l sz)) := by exact rfl) (hi : hp[i]? = some (.row v el sz n cs) := by exact rfl) (ht : L.look t = some ti := by exact rfl) (hd : ti.d = .slice el := by exact rfl) (hte : L.look el = some te := by exact rfl) (hsz : te.size = sz := by exact rfl)
    (hf : ∀ us, evl (hp.set i (.row v el sz n (spl cs (l * sz) us))) = some (hp' us) := by exact fun _ => rfl) : LO P F ⟨d, .call { callee := .builtin .clear, args := #[x], argTypes := #[t] }, ty, pos, aft, g⟩ ρ hp K :=
  lo_clear hL hl hx hi ht hd hte hsz fun us hu => by rw [← evl_eq (hf us)]; exact h us hu
theorem take_clear {α : Type} (cs us : List α) (k : Nat) (h : k + us.length ≤ cs.length) : (spl cs k us).take k = cs.take k := by
  rw [spl_eq _ _ _ h, List.append_assoc, List.take_append_of_le_length (by rw [List.length_take]; omega), List.take_take, Nat.min_self]
end
end Go.Proofs.YtbfomgchjlkopaaDoor
namespace Go.Proofs.YtbfomgchjlkopaaDoor
open Go.RowKit
theorem TabOk.array {P : Program} {L : Tab} (hL : TabOk P L) {t e : TypeId} {n : Nat} {i : TI} (h : L.look t = some i) (hd : i.d = .array n e) : P.underlying t = some (.array n e) := by
  obtain ⟨d, h1, h2⟩ := hL.desc h
  rw [hd] at h2
  cases d <;> simp [descB] at h2
  rw [h1, h2.1, h2.2]
end Go.Proofs.YtbfomgchjlkopaaDoor
namespace Go.Proofs.YtbfomgchjlkopaaDoor
open Go.RowKit
inductive Pt where
  | fin (r : List Nat)
  | fork (p : List Nat) (i : Nat) (a : Pt) (j : Nat) (b : Pt)
  | fork3 (p : List Nat) (i : Nat) (a : Pt) (j : Nat) (b : Pt) (k : Nat) (c : Pt)
  | fork4 (p : List Nat) (i : Nat) (a : Pt) (j : Nat) (b : Pt) (k : Nat) (c : Pt) (m : Nat) (d : Pt)
def Pt.n : Pt → Nat
  | .fin r => r.length
  | .fork p _ a _ _ => a.n + 1 + p.length
  | .fork3 p _ a _ _ _ _ => a.n + 1 + p.length
  | .fork4 p _ a _ _ _ _ _ _ => a.n + 1 + p.length
end Go.Proofs.YtbfomgchjlkopaaDoor
namespace Go.Proofs.YtbfomgchjlkopaaDoor
open Go.RowKit
theorem heap_pick {F : Frm} {M : Mm} {hp hs : List Blk} {w : World} {sel : List Nat} (h : HeapOk F M hp w) (hs' : selB hp sel = some hs) (hf : freshB sel = true) : HeapOk F M hs w := by
  refine ⟨h.mem, h.ext, h.frm, fun i x hx => ?_, fun i j x y b hx hy hxb hyb => ?_, fun i x b hx hxb => ?_⟩
  · obtain ⟨j, _, h2⟩ := selB_get hs' hx
    exact h.at_ j x h2
  · obtain ⟨k, h1, h2⟩ := selB_get hs' hx
    obtain ⟨k', h3, h4⟩ := selB_get hs' hy
    have := h.sep k k' x y b h2 h4 hxb hyb
    subst this
    exact freshB_inj hf h1 h3
  · obtain ⟨j, _, h2⟩ := selB_get hs' hx
    exact h.out j x b h2 hxb
section
variable {P : Program} {F : Frm} {τ : Nat → AV} {hp hs : List Blk} {N : Nat} {Q : Exit → AS → Prop}
theorem wk_pick (sel : List Nat) (hs' : selB hp sel = some hs) (hf : freshB sel = true) : Wk F ⟨τ, hp, N⟩ ⟨τ, hs, N⟩ := by
  intro M a w hr
  exact ⟨M, hr.tmps, hr.size, hr.defers, heap_pick hr.heap hs' hf⟩
end
end Go.Proofs.YtbfomgchjlkopaaDoor
namespace Go.Proofs.YtbfomgchjlkopaaDoor
/-- may the byte x stand at place i of a name? -/
def okN (i x : Nat) : Bool := decide (97 ≤ x ∧ x ≤ 122) || (decide (i ≠ 0) && (decide (x = 95) || decide (48 ≤ x ∧ x ≤ 57)))
def okTo (s : List UInt8) (k : Nat) : Prop := ∀ j (h : j < s.length), j < k → okN j (s[j]).toNat = true
/-- is it a name? -/
noncomputable def nameOk (s : List UInt8) : Bool := @decide (s ≠ [] ∧ s.length ≤ 16 ∧ okTo s s.length) (Classical.propDecidable _)
theorem nameOk_nil : nameOk [] = false := by simp [nameOk]
end Go.Proofs.YtbfomgchjlkopaaDoor
namespace Go.Proofs.YtbfomgchjlkopaaDoor
open Go.RowKit
structure Md where
  name : ByteArray
  version : Int
  uses : List Us
def Md.ts : Md → List T
  | ⟨f_name, f_version, f_uses⟩ => [.lit (.string f_name), .lit (.int .i64 f_version), Us.row f_uses]
theorem Md.ts_len (x : Md) : x.ts.length = 3 := by simp [Md.ts]
def Md.t (x : Md) : T := .agg x.ts
def Md.row (l : List Md) : T := .row l.length 3 (l.flatMap Md.ts)
theorem Md.at {l : List Md} {k : Nat} {x : Md} (h : l[k]? = some x) : ((l.flatMap Md.ts).drop (k * 3)).take 3 = x.ts := flat_at Md.ts 3 Md.ts_len h
def Md.size : Md → Nat
  | ⟨f_name, _, f_uses⟩ => f_name.size + Us.sizes f_uses + 1
def Md.sizes (l : List Md) : Nat := (l.map Md.size).sum
theorem Md.size_mem {x : Md} {l : List Md} (h : x ∈ l) : x.size ≤ Md.sizes l := sum_mem' Md.size h
theorem Md.len_sizes (l : List Md) : l.length ≤ Md.sizes l := len_sum' Md.size (fun x => by simp only [Md.size]; omega) l
instance : Inhabited Md := ⟨⟨⟨#[]⟩, 0, []⟩⟩
structure Pk where
  name : ByteArray
  version : Int
def Pk.ts : Pk → List T
  | ⟨f_name, f_version⟩ => [.lit (.string f_name), .lit (.int .i64 f_version)]
theorem Pk.ts_len (x : Pk) : x.ts.length = 2 := by simp [Pk.ts]
def Pk.t (x : Pk) : T := .agg x.ts
def Pk.row (l : List Pk) : T := .row l.length 2 (l.flatMap Pk.ts)
theorem Pk.at {l : List Pk} {k : Nat} {x : Pk} (h : l[k]? = some x) : ((l.flatMap Pk.ts).drop (k * 2)).take 2 = x.ts := flat_at Pk.ts 2 Pk.ts_len h
def Pk.size : Pk → Nat
  | ⟨f_name, _⟩ => f_name.size + 1
def Pk.sizes (l : List Pk) : Nat := (l.map Pk.size).sum
theorem Pk.size_mem {x : Pk} {l : List Pk} (h : x ∈ l) : x.size ≤ Pk.sizes l := sum_mem' Pk.size h
theorem Pk.len_sizes (l : List Pk) : l.length ≤ Pk.sizes l := len_sum' Pk.size (fun x => by simp only [Pk.size]; omega) l
instance : Inhabited Pk := ⟨⟨⟨#[]⟩, 0⟩⟩
noncomputable def useE (u : Us) : Int := if nameOk u.name.data.toList then (if u.low < 1 ∨ 9999 < u.high ∨ u.high < u.low then 1 else 0) else 11
noncomputable def usesE : List Us → Int
  | [] => 0
  | u :: r => if useE u = 0 then usesE r else useE u
noncomputable def wantsE (l : List Us) : Int := if 5 < l.length then 2 else usesE l
noncomputable def modE (m : Md) : Int := if nameOk m.name.data.toList then (if m.version < 1 ∨ 9999 < m.version then 1 else wantsE m.uses) else 11
def mordB (p m : Md) : Bool := strLt p.name m.name || (decide (p.name = m.name) && decide (p.version < m.version))
def ordE (p : Option Md) (m : Md) : Int := match p with | some q => if mordB q m then 0 else 21 | none => 0
noncomputable def modsE (p : Option Md) : List Md → Int
  | [] => 0
  | m :: r => if modE m = 0 then (if ordE p m = 0 then modsE (some m) r else ordE p m) else modE m
noncomputable def checkE (l : List Md) : Int := if 30 < l.length then 2 else modsE none l
theorem usesE_all : ∀ {l : List Us}, usesE l = 0 → ∀ u ∈ l, useE u = 0
  | [], _, _, h => by simp at h
  | u :: r, h, v, hv => by
    rw [usesE] at h
    by_cases h0 : useE u = 0
    · rw [if_pos h0] at h
      rcases List.mem_cons.1 hv with rfl | hv
      · exact h0
      · exact usesE_all h v hv
    · rw [if_neg h0] at h; exact absurd h h0
theorem wantsE_ok {l : List Us} (h : wantsE l = 0) : l.length ≤ 5 ∧ ∀ u ∈ l, useE u = 0 := by
  unfold wantsE at h
  by_cases h5 : 5 < l.length
  · rw [if_pos h5] at h; cases h
  · rw [if_neg h5] at h; exact ⟨by omega, usesE_all h⟩
theorem useE_name {u : Us} (h : useE u = 0) : u.name ≠ ⟨#[]⟩ := by
  rintro e
  unfold useE at h
  rw [e] at h
  rw [show nameOk (ByteArray.mk #[]).data.toList = false from nameOk_nil] at h
  simp at h
theorem modE_ok {m : Md} (h : modE m = 0) : (1 ≤ m.version ∧ m.version ≤ 9999) ∧ wantsE m.uses = 0 := by
  unfold modE at h
  split at h
  · split at h
    · cases h
    · exact ⟨by omega, h⟩
  · cases h
theorem lt_eq (a b : ByteArray) : strLt a b = decide (a.toList < b.toList) := bytesLess_eq _ _
theorem strLt_trans {a b c : ByteArray} (h : strLt a b = true) (h' : strLt b c = true) : strLt a c = true := by
  rw [lt_eq, decide_eq_true_eq] at h h' ⊢
  exact List.lt_trans h h'
def hitB (nm : ByteArray) (v : Int) (m : Md) : Bool := decide (m.name = nm) && decide (m.version = v)
def pv (ps : List Pk) (nm : ByteArray) : Option Int := (ps.find? fun p => decide (p.name = nm)).map Pk.version
def usOf (l : List Md) (nm : ByteArray) (v : Int) : Option (List Us) := (l.find? (hitB nm v)).map Md.uses
def okU (l : List Md) (ps : List Pk) (u : Us) : Option (List Us) :=
  match pv ps u.name with
  | none => none
  | some v => if v < u.low ∨ u.high < v then none else usOf l u.name v
inductive Runs (l : List Md) (ps : List Pk) : List Us → List ByteArray → Option (List ByteArray) → Prop where
  | done (R : List ByteArray) : Runs l ps [] R (some R)
  | bad {u : Us} {q : List Us} {R : List ByteArray} (h : okU l ps u = none) : Runs l ps (u :: q) R none
  | old {u : Us} {q : List Us} {R : List ByteArray} {r : Option (List ByteArray)} {us : List Us} (h : okU l ps u = some us) (hm : u.name ∈ R) (hr : Runs l ps q R r) : Runs l ps (u :: q) R r
  | new {u : Us} {q : List Us} {R : List ByteArray} {r : Option (List ByteArray)} {us : List Us} (h : okU l ps u = some us) (hm : u.name ∉ R) (hr : Runs l ps (q ++ us) (R ++ [u.name]) r) : Runs l ps (u :: q) R r
theorem Runs.det {l : List Md} {ps : List Pk} {q : List Us} {R : List ByteArray} {r r' : Option (List ByteArray)} (h : Runs l ps q R r) (h' : Runs l ps q R r') : r = r' := by
  induction h with
  | done R => cases h'; rfl
  | bad h =>
    cases h' with
    | bad _ => rfl
    | old h2 _ _ => rw [h] at h2; cases h2
    | new h2 _ _ => rw [h] at h2; cases h2
  | old h hm hr ih =>
    cases h' with
    | bad h2 => rw [h] at h2; cases h2
    | old h2 _ h3 => exact ih h3
    | new _ h2 _ => exact absurd hm h2
  | new h hm hr ih =>
    cases h' with
    | bad h2 => rw [h] at h2; cases h2
    | old _ h2 _ => exact absurd h2 hm
    | new h2 _ h3 =>
      rw [h] at h2
      injection h2 with h2
      subst h2
      exact ih h3
theorem pv_mem {ps : List Pk} {nm : ByteArray} {v : Int} (h : pv ps nm = some v) : nm ∈ ps.map Pk.name := by
  unfold pv at h
  cases hf : ps.find? (fun p => decide (p.name = nm)) with
  | none => rw [hf] at h; cases h
  | some p =>
    have h1 := List.find?_some hf
    have h2 := List.mem_of_find?_eq_some hf
    simp at h1
    exact List.mem_map.2 ⟨p, h2, h1⟩
theorem usOf_mem {l : List Md} {nm : ByteArray} {v : Int} {us : List Us} (h : usOf l nm v = some us) : ∃ m ∈ l, m.name = nm ∧ m.version = v ∧ m.uses = us := by
  unfold usOf at h
  cases hf : l.find? (hitB nm v) with
  | none => rw [hf] at h; cases h
  | some m =>
    rw [hf] at h
    have h1 := List.find?_some hf
    have h2 := List.mem_of_find?_eq_some hf
    simp [hitB] at h1
    exact ⟨m, h2, h1.1, h1.2, by simpa using h⟩
theorem okU_some {l : List Md} {ps : List Pk} {u : Us} {us : List Us} (h : okU l ps u = some us) : ∃ v, pv ps u.name = some v ∧ ¬ (v < u.low ∨ u.high < v) ∧ usOf l u.name v = some us := by
  unfold okU at h
  cases hp : pv ps u.name with
  | none => rw [hp] at h; cases h
  | some v =>
    rw [hp] at h
    simp only at h
    split at h
    · cases h
    · exact ⟨v, rfl, by assumption, h⟩
/-- names met: each once, of the selection, none empty -/
def Met (ps : List Pk) (R : List ByteArray) : Prop := R.Nodup ∧ ∀ nm ∈ R, nm ∈ ps.map Pk.name ∧ nm ≠ ⟨#[]⟩
theorem Runs.met {l : List Md} {ps : List Pk} (hl : ∀ m ∈ l, modE m = 0) {q : List Us} {R : List ByteArray} {r : Option (List ByteArray)} (h : Runs l ps q R r) (hq : ∀ u ∈ q, useE u = 0) (hR : Met ps R) : ∀ R', r = some R' → Met ps R' := by
  induction h with
  | done R => rintro R' e; injection e with e; subst e; exact hR
  | bad _ => rintro _ e; cases e
  | old h hm hr ih => exact ih (fun u hu => hq u (List.mem_cons_of_mem _ hu)) hR
  | @new u q R r us h hm hr ih =>
    obtain ⟨v, h1, _, h3⟩ := okU_some h
    obtain ⟨m, h4, _, _, h5⟩ := usOf_mem h3
    refine ih (fun x hx => ?_) ⟨?_, fun nm hn => ?_⟩
    · rcases List.mem_append.1 hx with hx | hx
      · exact hq x (List.mem_cons_of_mem _ hx)
      · rw [← h5] at hx
        exact (wantsE_ok (modE_ok (hl m h4)).2).2 x hx
    · rw [List.nodup_append]
      refine ⟨hR.1, by simp, fun a ha b hb => ?_⟩
      rw [List.mem_singleton] at hb
      rintro rfl
      rw [hb] at ha
      exact hm ha
    · rcases List.mem_append.1 hn with hn | hn
      · exact hR.2 nm hn
      · rw [List.mem_singleton] at hn
        subst hn
        exact ⟨pv_mem h1, useE_name (hq u (by simp))⟩
def leB (a b : ByteArray) : Bool := strLt a b || decide (a = b)
def ascR : ByteArray → List Pk → Bool
  | _, [] => true
  | last, p :: r => !leB p.name last && ascR p.name r
/-- modules whose names are not met yet -/
noncomputable def left (l : List Md) (R : List ByteArray) : Nat := by classical exact (l.filter fun m => decide (m.name ∉ R)).length
def runOut (ps : List Pk) (r : Option (List ByteArray)) : Bool := match r with | none => false | some R => decide (R.length = ps.length)
/-- what both answer -/
def RightIs (l : List Md) (root : List Us) (ps : List Pk) (b : Bool) : Prop :=
  ((checkE l ≠ 0 ∨ wantsE root ≠ 0 ∨ ascR ⟨#[]⟩ ps = false) ∧ b = false) ∨
  (checkE l = 0 ∧ wantsE root = 0 ∧ ascR ⟨#[]⟩ ps = true ∧ ∃ r, Runs l ps root [] r ∧ b = runOut ps r)
theorem RightIs.det {l : List Md} {root : List Us} {ps : List Pk} {b b' : Bool} (h : RightIs l root ps b) (h' : RightIs l root ps b') : b = b' := by
  rcases h with ⟨h1, rfl⟩ | ⟨h1, h2, h3, r, h4, rfl⟩
  · rcases h' with ⟨_, rfl⟩ | ⟨g1, g2, g3, _⟩
    · rfl
    · rcases h1 with h1 | h1 | h1
      · exact absurd g1 h1
      · exact absurd g2 h1
      · rw [g3] at h1; cases h1
  · rcases h' with ⟨g1, rfl⟩ | ⟨g1, g2, g3, r', h5, rfl⟩
    · rcases g1 with g1 | g1 | g1
      · exact absurd h1 g1
      · exact absurd h2 g1
      · rw [h3] at g1; cases g1
    · rw [h4.det h5]
end Go.Proofs.YtbfomgchjlkopaaDoor
namespace Go.Proofs.YtbfomgchjlkopaaDoor
open Go.RowKit
def bl (s : ByteArray) : List UInt8 := s.data.toList
def ofB (l : List UInt8) : ByteArray := ⟨l.toArray⟩
theorem ofB_bl (s : ByteArray) : ofB (bl s) = s := by cases s; simp [ofB, bl]
theorem bl_inj {a b : ByteArray} (h : bl a = bl b) : a = b := by rw [← ofB_bl a, h, ofB_bl]
theorem strLt_bl (a b : ByteArray) : strLt a b = decide (bl a < bl b) := by rw [lt_eq, str_toList, str_toList]; rfl
def leL (x y : List UInt8) : Bool := decide (x ≤ y)
/-- texts, sorted -/
def sortB (l : List ByteArray) : List ByteArray := ((l.map bl).mergeSort leL).map ofB
theorem sortB_perm (l : List ByteArray) : (sortB l).Perm l := by
  unfold sortB
  have h := (List.mergeSort_perm (l.map bl) leL).map ofB
  rw [List.map_map, show (ofB ∘ bl) = id from funext ofB_bl, List.map_id] at h
  exact h
theorem sortB_len (l : List ByteArray) : (sortB l).length = l.length := (sortB_perm l).length_eq
theorem rts_strs {M : Mm} : ∀ {l : List ByteArray} {xs : List Value}, RTs M (l.flatMap strTs) xs → xs = l.map Value.string
  | [], _, h => by simpa [RTs] using h
  | s :: l, xs, h => by
    simp only [List.flatMap_cons, strTs, List.cons_append, List.nil_append, RTs, RT] at h
    obtain ⟨x, r1, rfl, rfl, h⟩ := h
    rw [rts_strs h]
    rfl
theorem strs_rts {M : Mm} : ∀ (l : List ByteArray), RTs M (l.flatMap strTs) (l.map Value.string)
  | [] => by simp [RTs]
  | s :: l => by
    simp only [List.flatMap_cons, strTs, List.cons_append, List.nil_append, List.map_cons, RTs, RT]
    exact ⟨_, _, rfl, rfl, strs_rts l⟩
theorem strs_one (l : List ByteArray) : OneAll (l.map Value.string) := fun x hx => by
  obtain ⟨s, _, rfl⟩ := List.mem_map.1 hx
  rfl
theorem enc_ofB (l : List (List UInt8)) : l.map Go.Proofs.encStr = (l.map ofB).map Value.string := by
  rw [List.map_map]
  rfl
theorem map_ofB (l : List ByteArray) : (l.map bl).map ofB = l := by
  rw [List.map_map, show (ofB ∘ bl) = id from funext ofB_bl, List.map_id]
theorem enc_bl (l : List ByteArray) : (l.map bl).map Go.Proofs.encStr = l.map Value.string := by
  rw [enc_ofB, map_ofB]
theorem put_heap {α : Type} [Inhabited α] (enc : α → Value) (w : World) (n blk off : Nat) (d : Array α) (os : Array Obj) (hb : blk < w.heap.size) :
    (∀ b, b < w.heap.size → b ≠ blk → (Sort.grow (Sort.putRow enc (Sort.ahead w n) blk off d) os).heap[b]? = w.heap[b]?) ∧
    (∀ cur e fr, w.heap[blk]? = some (.cells cur e fr) → (Sort.grow (Sort.putRow enc (Sort.ahead w n) blk off d) os).heap[blk]? = some (.cells (Sort.putCells enc off d cur) e fr)) ∧ w.heap.size ≤ (Sort.grow (Sort.putRow enc (Sort.ahead w n) blk off d) os).heap.size := by
  have hh : (Sort.grow (Sort.putRow enc (Sort.ahead w n) blk off d) os).heap = w.heap.modify blk (Sort.onCells (Sort.putCells enc off d)) ++ os := rfl
  rw [hh]
  refine ⟨fun b h1 h2 => ?_, fun cur e fr h => ?_, by rw [Array.size_append, Array.size_modify]; omega⟩
  · rw [Array.getElem?_append_left (by rw [Array.size_modify]; exact h1), Array.getElem?_modify, if_neg (Ne.symm h2)]
  · rw [Array.getElem?_append_left (by rw [Array.size_modify]; exact hb), Array.getElem?_modify, if_pos rfl, h]
    rfl
theorem putEnc_list {α : Type} [Inhabited α] (enc : α → Value) (d : Array α) (cur : Array Value) (off : Nat) (h : off + d.size ≤ cur.size) : ((Sort.putCells enc off d cur).toList.drop off).take d.size = d.toList.map enc := by
  apply List.ext_getElem?
  intro t
  rw [List.getElem?_take]
  by_cases h1 : t < d.size
  · rw [if_pos h1, List.getElem?_drop, Array.getElem?_toList, List.getElem?_map, Array.getElem?_toList, Array.getElem?_eq_getElem h1]
    have h2 : off + t < (Sort.putCells enc off d cur).size := by simp only [Sort.putCells, Array.size_mapIdx]; omega
    rw [Array.getElem?_eq_getElem h2]
    simp only [Sort.putCells, Array.getElem_mapIdx]
    rw [if_pos ⟨by omega, by omega⟩, show off + t - off = t by omega, getElem!_pos d t h1]
    rfl
  · rw [if_neg h1, List.getElem?_map, Array.getElem?_toList, Array.getElem?_eq_none (by omega)]
    rfl
/-- a step that writes the cells of the one block, and makes others -/
theorem sorted_heap {F : Frm} {M : Mm} {w w' : World} {v v' : Value} {e : TypeId} {sz n n' : Nat} {ts ts' : List T} {g0 : Nat} (hM : HeapOk F M [.row v e sz n ts] w) (hv : v.ownBlock = some g0) (hv' : v'.ownBlock = some g0)
    (hos : w'.os = w.os) (htape : w'.tape = w.tape) (hout : w'.output = w.output) (hsz : w.heap.size ≤ w'.heap.size) (hother : ∀ b, b < w.heap.size → b ≠ g0 → w'.heap[b]? = w.heap[b]?) (hx : BlkOk M w' (.row v' e sz n' ts')) : HeapOk F M [.row v' e sz n' ts'] w' := by
  refine hM.step 0 hos htape hout hsz (fun b hb hne => hother b hb fun h => ?_) (Ext.refl _ _) (fun p v h1 h2 => by rw [h2] at h1; cases h1) (fun j hj => ?_) (fun x' hx' => ?_)
  · exact hne _ rfl (by rw [h]; exact hv)
  · cases j with
    | zero => exact absurd rfl hj
    | succ j => rfl
  · obtain rfl : _ = x' := by simpa using hx'
    exact ⟨hx, fun b hb => .inl ⟨_, rfl, hv.trans (hv'.symm.trans hb)⟩⟩
set_option maxHeartbeats 1000000 in
theorem sortS_ag {P : Program} {ρ : Shelf.Ren} (L : SlLaysM.n6 P ρ) (hE : Enters P (ρ.f 6)) (l : List ByteArray) (hlen : l.length ≤ 4611686018427387) (v : Value) (e : TypeId) :
    AG P (ρ.f 6) [.own 0 v] [.row v e 1 l.length (l.flatMap strTs)] (fun r hs => r = .tup [] ∧ hs = [.row v e 1 (sortB l).length ((sortB l).flatMap strTs)]) := by
  refine ⟨hE, fun F M w vs hM hv => ?_⟩
  simp only [RAs, RA] at hv
  obtain ⟨u, r1, rfl, ⟨rfl, -⟩, rfl⟩ := hv
  obtain ⟨xs, ho, hx, h1, h2⟩ := hM.at_ 0 _ rfl
  obtain rfl := rts_strs hx
  have hsl := sortB_len l
  rcases ho.2 with ⟨rfl, h0⟩ | ⟨g0, off, cap, cur, rfl, hg, hnc, hcm, hcs, htk⟩
  · obtain rfl : l = [] := List.length_eq_zero_iff.1 h0
    refine (AnyM.slices_Sort_string_none L none 0 w).mono fun e' w' ⟨he, hw⟩ => ?_
    subst hw
    exact ⟨_, .tup [], _, M, he, ⟨rfl, rfl⟩, Ext.refl _ _, (by rw [show sortB [] = [] by simp [sortB]]; exact hM), by simp only [RA, RAs]; exact ⟨[], rfl, rfl⟩⟩
  · have hblk : g0 < w.heap.size := (Array.getElem?_eq_some_iff.1 hg).1
    have hl2 : (l.map bl).length = l.length := List.length_map _
    have hH : Sort.Holds Go.Proofs.encStr w g0 off (l.map bl).toArray := by
      intro j hj
      have hj1 : j < l.length := by simpa using hj
      have hj2 : (l.map Value.string)[j]? = some (Go.Proofs.encStr (l.map bl).toArray[j]!) := by
        rw [← enc_bl, List.getElem?_map, getElem!_pos (l.map bl).toArray j (by simpa using hj1)]
        simp [hj1]
      refine ⟨?_, ?_⟩
      · have := ho.cells j _ hj2
        rwa [offs_add] at this
      · simp only [World.frozen?, hg]
        simp
    have hcon := AnyM.slices_Sort_string L g0 off cap (l.map bl) w hH hblk (by rw [hl2]; omega)
    rw [hl2] at hcon
    refine hcon.mono fun e' w' ⟨he, n, os, hw⟩ => ?_
    have hfz : (((l.map bl).mergeSort leL).toArray).size = l.length := by simp [(List.mergeSort_perm (l.map bl) leL).length_eq]
    obtain ⟨hW1, hW2, hW3⟩ := put_heap Go.Proofs.encStr w n g0 off ((l.map bl).mergeSort leL).toArray os hblk
    have hW4 := hW2 cur e (0, 0) hg
    have hww : w' = Sort.grow (Sort.putRow Go.Proofs.encStr (Sort.ahead w n) g0 off ((l.map bl).mergeSort leL).toArray) os := hw
    rw [← hww] at hW1 hW3 hW4
    have hos : w'.os = w.os ∧ w'.tape = w.tape ∧ w'.output = w.output := by rw [hww]; exact ⟨rfl, rfl, rfl⟩
    clear hw hww hcon hW2 hH
    have hcz : off + (((l.map bl).mergeSort leL).toArray).size ≤ cur.size := by
      rw [hfz]
      omega
    have hown : OwnsO w' e 1 (.slice (some ⟨g0, off, none⟩) l.length cap) l.length ((sortB l).map Value.string) := by
      refine ⟨by rw [List.length_map, hsl, Nat.mul_one], .inr ⟨g0, off, cap, _, rfl, hW4, hnc, hcm, by simp only [Sort.putCells, Array.size_mapIdx]; exact hcs, ?_⟩⟩
      have := putEnc_list Go.Proofs.encStr ((l.map bl).mergeSort leL).toArray cur off hcz
      rw [hfz, List.toList_toArray, enc_ofB] at this
      rw [Nat.mul_one]
      exact this
    refine ⟨_, .tup [], _, M, he, ⟨rfl, rfl⟩, Ext.refl _ _, ?_, by simp only [RA, RAs]; exact ⟨[], rfl, rfl⟩⟩
    rw [hsl]
    exact sorted_heap hM rfl rfl hos.1 hos.2.1 hos.2.2 hW3 hW1 ⟨_, hown, strs_rts _, strs_one _, by omega⟩
end Go.Proofs.YtbfomgchjlkopaaDoor
namespace Go.Proofs.YtbfomgchjlkopaaDoor
open Go.RowKit
structure En where
  name : ByteArray
  sort : Int
  inn : ByteArray
  line : ByteArray
instance : Inhabited En := ⟨⟨⟨#[]⟩, 0, ⟨#[]⟩, ⟨#[]⟩⟩⟩
def En.ts (e : En) : List T := [.lit (.string e.name), .lit (.int .i64 e.sort), .lit (.string e.inn), .lit (.string e.line)]
theorem En.ts_len (e : En) : e.ts.length = 4 := rfl
def En.row (l : List En) : T := .row l.length 4 (l.flatMap En.ts)
theorem En.at {l : List En} {k : Nat} {e : En} (h : l[k]? = some e) : ((l.flatMap En.ts).drop (k * 4)).take 4 = e.ts := flat_at En.ts 4 En.ts_len h
theorem spl_flat {α : Type} (f : α → List T) (sz : Nat) (hf : ∀ a, (f a).length = sz) : ∀ (l : List α) (j : Nat) (p : α), j < l.length → spl (l.flatMap f) (j * sz) (f p) = (l.set j p).flatMap f := by
  intro l j p hj
  have hl := len_flat (f := f) (sz := sz) hf
  have h1 : l = l.take j ++ l[j] :: l.drop (j + 1) := by rw [← List.drop_eq_getElem_cons hj, List.take_append_drop]
  have h2 : (l.take j).length = j := by rw [List.length_take]; omega
  rw [spl_eq _ _ _ (by
    rw [hf, hl]
    have := Nat.mul_le_mul_right sz (show j + 1 ≤ l.length by omega)
    rw [Nat.add_mul] at this
    omega)]
  rw [hf, show j * sz + sz = (j + 1) * sz by rw [Nat.add_mul, Nat.one_mul]]
  rw [take_flat hf j l, drop_flat hf (j + 1) l]
  have h3 : l.set j p = l.take j ++ p :: l.drop (j + 1) := by
    have := set_mid (P := l.take j) (Q := l.drop (j + 1)) (x := l[j]) (y := p) (n := j) h2.symm
    rwa [← h1] at this
  rw [h3]
  simp
def cmpS (a b : ByteArray) : Int := if strLt a b = true then -1 else if strLt b a = true then 1 else 0
theorem strLt_self (a : ByteArray) : strLt a a = false := by
  rw [strLt_bl]
  exact decide_eq_false (List.lt_irrefl _)
theorem strLt_not {a b : ByteArray} (h : strLt a b = true) : strLt b a = false := by
  cases hc : strLt b a
  · rfl
  · have := strLt_trans h hc
    rw [strLt_self] at this
    cases this
theorem strLt_eq {a b : ByteArray} (h1 : strLt a b = false) (h2 : strLt b a = false) : a = b := by
  rw [strLt_bl] at h1 h2
  exact bl_inj (List.le_antisymm (of_decide_eq_false h2) (of_decide_eq_false h1))
theorem cmpS_lt {a b : ByteArray} : cmpS a b < 0 ↔ strLt a b = true := by
  unfold cmpS
  split
  · simp [*]
  · rename_i h
    split <;> simp [h]
theorem cmpS_gt {a b : ByteArray} : 0 < cmpS a b ↔ strLt b a = true := by
  unfold cmpS
  split
  · rename_i h
    simp [strLt_not h]
  · split <;> simp [*]
theorem cmpS_eq {a b : ByteArray} : cmpS a b = 0 ↔ a = b := by
  constructor
  · intro h
    have h1 : strLt a b = false := by cases hc : strLt a b; rfl; have := cmpS_lt.2 hc; omega
    have h2 : strLt b a = false := by cases hc : strLt b a; rfl; have := cmpS_gt.2 hc; omega
    exact strLt_eq h1 h2
  · rintro rfl
    unfold cmpS
    simp [strLt_self]
def enC (a b : En) : Int := if cmpS a.name b.name = 0 then a.sort - b.sort else cmpS a.name b.name
theorem enC_lt {a b : En} : enC a b < 0 ↔ strLt a.name b.name = true ∨ (a.name = b.name ∧ a.sort < b.sort) := by
  unfold enC
  split
  · rename_i h
    have h2 := cmpS_eq.1 h
    rw [h2, strLt_self]
    constructor
    · intro h3
      exact .inr ⟨rfl, by omega⟩
    · rintro (h3 | ⟨_, h3⟩)
      · cases h3
      · omega
  · rename_i h
    rw [cmpS_lt]
    have h2 : ¬ a.name = b.name := fun e => h (cmpS_eq.2 e)
    simp [h2]
theorem enC_gt {a b : En} : 0 < enC a b ↔ strLt b.name a.name = true ∨ (a.name = b.name ∧ b.sort < a.sort) := by
  unfold enC
  split
  · rename_i h
    have h2 := cmpS_eq.1 h
    rw [h2, strLt_self]
    constructor
    · intro h3
      exact .inr ⟨rfl, by omega⟩
    · rintro (h3 | ⟨_, h3⟩)
      · cases h3
      · omega
  · rename_i h
    rw [cmpS_gt]
    have h2 : ¬ a.name = b.name := fun e => h (cmpS_eq.2 e)
    simp [h2]
theorem enC_le {a b : En} : enC a b ≤ 0 ↔ strLt a.name b.name = true ∨ (a.name = b.name ∧ a.sort ≤ b.sort) := by
  have h1 := enC_gt (a := a) (b := b)
  constructor
  · intro h
    have h2 : ¬ (strLt b.name a.name = true ∨ (a.name = b.name ∧ b.sort < a.sort)) := fun h3 => by have := h1.2 h3; omega
    cases hc : strLt a.name b.name
    · right
      have h3 : strLt b.name a.name = false := by cases hd : strLt b.name a.name; rfl; exact absurd (.inl hd) h2
      have h4 := strLt_eq hc h3
      exact ⟨h4, by by_cases h5 : b.sort < a.sort; exact absurd (.inr ⟨h4, h5⟩) h2; omega⟩
    · exact .inl rfl
  · intro h
    by_cases h2 : 0 < enC a b
    · rcases h1.1 h2 with h3 | ⟨h3, h4⟩
      · rcases h with h | ⟨h, _⟩
        · rw [strLt_not h] at h3; cases h3
        · rw [h, strLt_self] at h3; cases h3
      · rcases h with h | ⟨_, h⟩
        · rw [h3, strLt_self] at h; cases h
        · omega
    · omega
theorem enC_ok : CfOk enC := by
  refine ⟨fun x y => ?_, fun x y z h1 h2 => ?_⟩
  · rw [enC_lt, enC_gt]
    constructor
    · rintro (h | ⟨h, h'⟩)
      · exact .inl h
      · exact .inr ⟨h.symm, h'⟩
    · rintro (h | ⟨h, h'⟩)
      · exact .inl h
      · exact .inr ⟨h.symm, h'⟩
  · rw [enC_le] at *
    rcases h1 with h1 | ⟨h1, h1'⟩ <;> rcases h2 with h2 | ⟨h2, h2'⟩
    · exact .inl (strLt_trans h1 h2)
    · exact .inl (by rw [← h2]; exact h1)
    · exact .inl (by rw [h1]; exact h2)
    · exact .inr ⟨h1.trans h2, by omega⟩
end Go.Proofs.YtbfomgchjlkopaaDoor
namespace Go.Proofs.YtbfomgchjlkopaaDoor
section
variable {α : Type} {cf : α → α → Int} {A B : List (α × Nat)} {q : Nat}
/-- what the search asks at c -/
def Pm (cf : α → α → Int) (A B : List (α × Nat)) (q c : Nat) : Prop := ∀ (h1 : q - c - 1 < B.length) (h2 : c < A.length), cf (B[q - c - 1]).1 (A[c]).1 < 0
structure MidOk (A B : List (α × Nat)) (q lo hi : Nat) : Prop where
  q1 : q = (A.length + B.length) / 2
  lo1 : lo = 0 ∨ (lo = q - B.length ∧ B.length ≤ q)
  lo2 : q ≤ lo + B.length
  hi1 : hi = q ∨ hi = A.length
  hiq : hi ≤ q
  hiA : hi ≤ A.length
  lh : lo ≤ hi
theorem mid_of (A B : List (α × Nat)) : MidOk A B ((A.length + B.length) / 2) (if (A.length + B.length) / 2 < A.length then (A.length + B.length) / 2 - B.length else 0) (if (A.length + B.length) / 2 < A.length then (A.length + B.length) / 2 else A.length) := by
  split
  · exact ⟨rfl, .inr ⟨rfl, by omega⟩, by omega, .inl rfl, by omega, by omega, by omega⟩
  · exact ⟨rfl, .inl rfl, by omega, .inr rfl, by omega, by omega, by omega⟩
theorem pm_mono (h0 : CfOk cf) (hA : A.Pairwise (SR cf)) (hB : B.Pairwise (SR cf)) {c d : Nat} (hc : c ≤ d) (hq : d < q) (hqB : q ≤ c + B.length) (hd : d < A.length) (h : Pm cf A B q c) : Pm cf A B q d := by
  intro h1 h2
  have h3 := h (by omega) (by omega)
  have h4 := pw_le h0 hB (i := q - d - 1) (j := q - c - 1) (by omega) (by omega)
  have h5 := pw_le h0 hA (i := c) (j := d) hc hd
  exact lt_of_lt_le h0 (lt_of_le_lt h0 h4 h3) h5
/-- between two steps of the search -/
structure Sea (cf : α → α → Int) (A B : List (α × Nat)) (q lo hi s r : Nat) : Prop where
  a : lo ≤ s
  b : s ≤ r
  c : r ≤ hi
  no : ∀ k, lo ≤ k → k < s → ¬ Pm cf A B q k
  yes : ∀ k, r ≤ k → k < hi → Pm cf A B q k
variable {lo hi s r : Nat}
theorem Sea.start (hM : MidOk A B q lo hi) : Sea cf A B q lo hi lo hi := ⟨Nat.le_refl _, hM.lh, Nat.le_refl _, fun k h1 h2 => by omega, fun k h1 h2 => by omega⟩
theorem Sea.get (hM : MidOk A B q lo hi) (h : Sea cf A B q lo hi s r) (hsr : s < r) {c : Nat} (hc : c = (s + r) / 2) : s ≤ c ∧ c < r ∧ c < A.length ∧ q - c - 1 < B.length ∧ c < q := by
  have := h.a; have := h.c; have := hM.hiA; have := hM.hiq; have := hM.lo2
  omega
theorem Sea.up (h0 : CfOk cf) (hA : A.Pairwise (SR cf)) (hB : B.Pairwise (SR cf)) (hM : MidOk A B q lo hi) (h : Sea cf A B q lo hi s r) (hsr : s < r) {c : Nat} (hc : c = (s + r) / 2) (hn : ¬ Pm cf A B q c) : Sea cf A B q lo hi (c + 1) r := by
  obtain ⟨g1, g2, g3, g4, g5⟩ := h.get hM hsr hc
  have := h.a; have := hM.lo2
  refine ⟨by omega, by omega, h.c, fun k h1 h2 hk => ?_, h.yes⟩
  exact hn (pm_mono h0 hA hB (c := k) (d := c) (by omega) (by omega) (by omega) g3 hk)
theorem Sea.down (h0 : CfOk cf) (hA : A.Pairwise (SR cf)) (hB : B.Pairwise (SR cf)) (hM : MidOk A B q lo hi) (h : Sea cf A B q lo hi s r) (hsr : s < r) {c : Nat} (hc : c = (s + r) / 2) (hn : Pm cf A B q c) : Sea cf A B q lo hi s c := by
  obtain ⟨g1, g2, g3, g4, g5⟩ := h.get hM hsr hc
  have := h.a; have := h.c; have := hM.lo2; have := hM.hiq; have := hM.hiA
  exact ⟨h.a, g1, by omega, h.no, fun k h1 h2 => pm_mono h0 hA hB (c := c) (d := k) h1 (by omega) (by omega) (by omega) hn⟩
/-- at the end: the cut is right -/
theorem Sea.cut (h0 : CfOk cf) (hA : A.Pairwise (SR cf)) (hB : B.Pairwise (SR cf)) (ht : TagLt A B) (hM : MidOk A B q lo hi) (h : Sea cf A B q lo hi s s) : s ≤ A.length ∧ s ≤ q ∧ q - s ≤ B.length ∧ (∀ x ∈ A.take s, ∀ y ∈ B.drop (q - s), SR cf x y) ∧ (∀ x ∈ B.take (q - s), ∀ y ∈ A.drop s, SR cf x y) := by
  have h1 := h.a; have h2 := h.c; have h3 := hM.hiA; have h4 := hM.hiq; have h5 := hM.lo2
  refine ⟨by omega, by omega, by omega, cross h0 hA hB (by omega) fun g1 g2 g3 => ?_, cross h0 hB hA (by omega) fun g1 g2 g3 => ?_⟩
  · have h6 : lo < s := by
      rcases hM.lo1 with e | ⟨e, e2⟩
      · omega
      · omega
    have hn := h.no (s - 1) (by omega) (by omega)
    refine sr_ge h0 (fun hc => hn fun k1 k2 => ?_) (ht _ (List.getElem_mem _) _ (List.getElem_mem _))
    have e : q - (s - 1) - 1 = q - s := by omega
    simp only [e]
    exact hc
  · have h6 : s < hi := by
      rcases hM.hi1 with e | e
      · omega
      · omega
    have hy := h.yes s (Nat.le_refl _) h6 (by omega) g2
    exact sr_lt h0 hy
end
end Go.Proofs.YtbfomgchjlkopaaDoor
namespace Go.Proofs.YtbfomgchjlkopaaDoor
section
variable {α : Type} {cf : α → α → Int}
/-- x behind all that is not greater -/
def insT (cf : α → α → Int) (C : List (α × Nat)) (x : α × Nat) : List (α × Nat) := C.takeWhile (fun y => !decide (cf x.1 y.1 < 0)) ++ x :: C.dropWhile (fun y => !decide (cf x.1 y.1 < 0))
theorem ins_at {β : Type} {p : β → Bool} : ∀ {C : List β} {i : Nat}, i ≤ C.length → (∀ (k : Nat) (hk : k < C.length), k < i → p C[k] = true) → (∀ (hk : i < C.length), p C[i] = false) → C.takeWhile p = C.take i ∧ C.dropWhile p = C.drop i
  | [], i, h, _, _ => by
    have : i = 0 := by simpa using h
    subst this
    simp
  | a :: C, 0, _, _, h2 => by
    have := h2 (by simp)
    simp at this
    simp [this]
  | a :: C, i + 1, h, h1, h2 => by
    have ha := h1 0 (by simp) (by omega)
    simp at ha
    have ih := ins_at (p := p) (C := C) (i := i) (by simpa using h) (fun k hk hki => by
      have := h1 (k + 1) (by simpa using hk) (by omega)
      simpa using this) (fun hk => by
      have := h2 (by simpa using hk)
      simpa using this)
    simp [ha, ih.1, ih.2]
/-- a scan from the end finds the place -/
theorem insT_at {C : List (α × Nat)} {x : α × Nat} {i : Nat} (h0 : CfOk cf) (hC : C.Pairwise (SR cf)) (hi : i ≤ C.length) (h1 : ∀ (h : i - 1 < C.length), 0 < i → ¬ cf x.1 (C[i - 1]).1 < 0) (h2 : ∀ (k : Nat) (hk : k < C.length), i ≤ k → cf x.1 (C[k]).1 < 0) : insT cf C x = C.take i ++ x :: C.drop i := by
  have h := ins_at (p := fun y => !decide (cf x.1 y.1 < 0)) (C := C) hi (fun k hk hki => by
    simp only [Bool.not_eq_true', decide_eq_false_iff_not]
    intro hc
    have h3 := h1 (by omega) (by omega)
    have h4 := pw_le h0 hC (i := k) (j := i - 1) (by omega) (by omega)
    exact h3 (lt_of_lt_le h0 hc h4)) (fun hk => by
    simp only [Bool.not_eq_false', decide_eq_true_eq]
    exact h2 i hk (Nat.le_refl _))
  unfold insT
  rw [h.1, h.2]
theorem place (h0 : CfOk cf) (x : α × Nat) : ∀ (n : Nat) (C : List (α × Nat)), C.length = n → C.Pairwise (SR cf) → ∃ i, i ≤ C.length ∧ (∀ (k : Nat) (hk : k < C.length), k < i → ¬ cf x.1 (C[k]).1 < 0) ∧ (∀ (k : Nat) (hk : k < C.length), i ≤ k → cf x.1 (C[k]).1 < 0)
  | 0, C, hn, _ => ⟨0, Nat.zero_le _, fun k hk _ => by omega, fun k hk _ => by omega⟩
  | n + 1, C, hn, hC => by
    by_cases hl : cf x.1 (C[n]'(by omega)).1 < 0
    · obtain ⟨i, g1, g2, g3⟩ := place h0 x n (C.take n) (by rw [List.length_take]; omega) (hC.sublist (List.take_sublist _ _))
      rw [List.length_take] at g1
      refine ⟨i, by omega, fun k hk hki => ?_, fun k hk hki => ?_⟩
      · have := g2 k (by rw [List.length_take]; omega) hki
        rwa [List.getElem_take] at this
      · by_cases hkn : k = n
        · subst hkn; exact hl
        · have := g3 k (by rw [List.length_take]; omega) hki
          rwa [List.getElem_take] at this
    · refine ⟨n + 1, by omega, fun k hk hki => fun hc => ?_, fun k hk hki => by omega⟩
      have h4 := pw_le h0 hC (i := k) (j := n) (by omega) (by omega)
      exact hl (lt_of_lt_le h0 hc h4)
theorem insT_ok (h0 : CfOk cf) {C : List (α × Nat)} (hC : C.Pairwise (SR cf)) {x : α × Nat} (ht : TagLt C [x]) : (insT cf C x).Perm (C ++ [x]) ∧ (insT cf C x).Pairwise (SR cf) := by
  obtain ⟨i, g1, g2, g3⟩ := place h0 x _ C rfl hC
  have e := insT_at (x := x) h0 hC g1 (fun h hp => g2 _ h (by omega)) g3
  rw [e]
  exact merge_one_right h0 hC ht g2 g3
/-- the elements so far, in stable order -/
def stT (cf : α → α → Int) (l : List (α × Nat)) : List (α × Nat) := l.foldl (insT cf) []
theorem stT_snoc (l : List (α × Nat)) (x : α × Nat) : stT cf (l ++ [x]) = insT cf (stT cf l) x := by unfold stT; rw [List.foldl_append]; rfl
theorem stT_ok (h0 : CfOk cf) : ∀ (n : Nat) (l : List (α × Nat)), l.length = n → l.Pairwise (fun x y => x.2 < y.2) → (stT cf l).Perm l ∧ (stT cf l).Pairwise (SR cf)
  | 0, l, h, _ => by
    have : l = [] := List.eq_nil_of_length_eq_zero h
    subst this
    exact ⟨List.Perm.refl _, List.Pairwise.nil⟩
  | n + 1, l, h, ht => by
    have hne : l ≠ [] := fun e => by rw [e] at h; simp at h
    obtain ⟨l', x, rfl⟩ : ∃ l' x, l = l' ++ [x] := ⟨l.dropLast, l.getLast hne, (List.dropLast_concat_getLast hne).symm⟩
    rw [List.length_append, List.length_singleton] at h
    obtain ⟨p1, _, p3⟩ := List.pairwise_append.1 ht
    obtain ⟨i1, i2⟩ := stT_ok h0 n l' (by omega) p1
    rw [stT_snoc]
    have htl : TagLt (stT cf l') [x] := fun y hy z hz => p3 y (i1.mem_iff.1 hy) z hz
    obtain ⟨j1, j2⟩ := insT_ok h0 i2 htl
    exact ⟨j1.trans (i1.append_right _), j2⟩
theorem tagF_pw (l : List α) (a : Nat) : (tagF l a).Pairwise (fun x y => x.2 < y.2) := by
  induction l generalizing a with
  | nil => exact List.Pairwise.nil
  | cons x l ih =>
    have e : tagF (x :: l) a = (x, a) :: tagF l (a + 1) := by simp [tagF, List.zipIdx_cons]
    rw [e]
    refine List.pairwise_cons.2 ⟨fun y hy => ?_, ih _⟩
    have := List.mem_zipIdx hy
    simp
    omega
/-- the list in stable order -/
def stabL (cf : α → α → Int) (l : List α) : List α := (stT cf (tagF l 0)).map (·.1)
theorem stabL_eq (h0 : CfOk cf) {l : List α} {C : List (α × Nat)} (hp : C.Perm (tagF l 0)) (hs : C.Pairwise (SR cf)) : C.map (·.1) = stabL cf l := by
  obtain ⟨h1, h2⟩ := stT_ok h0 _ _ rfl (tagF_pw l 0)
  unfold stabL
  rw [sr_unique (hp.trans h1.symm) hs h2]
theorem stabL_snoc {l : List α} {x : α} : stT cf (tagF (l ++ [x]) 0) = insT cf (stT cf (tagF l 0)) (x, l.length) := by
  rw [tagF_app, show tagF [x] (0 + l.length) = [(x, l.length)] by simp [tagF]]
  exact stT_snoc _ _
theorem stabL_perm (h0 : CfOk cf) (l : List α) : (stabL cf l).Perm l := by
  obtain ⟨h1, _⟩ := stT_ok h0 _ _ rfl (tagF_pw l 0)
  have := h1.map (·.1)
  rwa [tagF_fst] at this
end
end Go.Proofs.YtbfomgchjlkopaaDoor
namespace Go.Proofs.YtbfomgchjlkopaaDoor
open Go.Shelf
def sortStr_ren : Go.Shelf.Ren := ⟨fun | 6 => 16 | 8 => 39 | 9 => 38 | 19 => 59 | 20 => 60 | 21 => 50 | 22 => 51 | 23 => 52 | 24 => 53 | 25 => 54 | 26 => 55 | 27 => 56 | 28 => 57 | 29 => 58 | 36 => 70 | 31 => 71 | 32 => 72 | 37 => 73 | 38 => 74 | 39 => 47 | 41 => 82 | n => n, fun | 27 => 30 | 29 => 9 | 3 => 3 | 32 => 89 | 26 => 30 | 0 => 0 | 44 => 119 | 46 => 121 | 4 => 4 | 36 => 111 | 35 => 110 | 41 => 116 | 5 => 5 | 9 => 9 | 53 => 130 | 57 => 134 | 63 => 144 | 64 => 145 | n => n, fun | n => n⟩
theorem sortStr : Go.Proofs.SlLaysM.n6 Tryd.prog sortStr_ren := {
  mixed := by kernel_rfl
  f6 := ⟨Tryd.f16.name, by decide, Tryd.func16.trans (congrArg some (by kernel_rfl))⟩
  f8 := Tryd.func39.trans (congrArg some (by kernel_rfl))
  f9 := ⟨Tryd.f38.name, by decide, Tryd.func38.trans (congrArg some (by kernel_rfl))⟩
  f19 := Tryd.func59.trans (congrArg some (by kernel_rfl))
  f20 := Tryd.func60.trans (congrArg some (by kernel_rfl))
  f21 := ⟨Tryd.f50.name, by decide, Tryd.func50.trans (congrArg some (by kernel_rfl))⟩
  f22 := ⟨Tryd.f51.name, by decide, Tryd.func51.trans (congrArg some (by kernel_rfl))⟩
  f23 := ⟨Tryd.f52.name, by decide, Tryd.func52.trans (congrArg some (by kernel_rfl))⟩
  f24 := ⟨Tryd.f53.name, by decide, Tryd.func53.trans (congrArg some (by kernel_rfl))⟩
  f25 := ⟨Tryd.f54.name, by decide, Tryd.func54.trans (congrArg some (by kernel_rfl))⟩
  f26 := ⟨Tryd.f55.name, by decide, Tryd.func55.trans (congrArg some (by kernel_rfl))⟩
  f27 := ⟨Tryd.f56.name, by decide, Tryd.func56.trans (congrArg some (by kernel_rfl))⟩
  f28 := ⟨Tryd.f57.name, by decide, Tryd.func57.trans (congrArg some (by kernel_rfl))⟩
  f29 := ⟨Tryd.f58.name, by decide, Tryd.func58.trans (congrArg some (by kernel_rfl))⟩
  f31 := Tryd.func71.trans (congrArg some (by kernel_rfl))
  f32 := Tryd.func72.trans (congrArg some (by kernel_rfl))
  f36 := ⟨Tryd.f70.name, by decide, Tryd.func70.trans (congrArg some (by kernel_rfl))⟩
  f37 := ⟨Tryd.f73.name, by decide, Tryd.func73.trans (congrArg some (by kernel_rfl))⟩
  f38 := ⟨Tryd.f74.name, by decide, Tryd.func74.trans (congrArg some (by kernel_rfl))⟩
  f39 := ⟨Tryd.f47.name, by decide, Tryd.func47.trans (congrArg some (by kernel_rfl))⟩
  f41 := ⟨Tryd.f82.name, by decide, Tryd.func82.trans (congrArg some (by kernel_rfl))⟩
  t0 := Tryd.underlying0
  a0 := Tryd.isAgg0
  z0 := Tryd.sizeOf0
  v0 := Tryd.zeroValue0
  t3 := Tryd.underlying3
  a3 := Tryd.isAgg3
  z3 := Tryd.sizeOf3
  v3 := Tryd.zeroValue3
  t4 := Tryd.underlying4
  a4 := Tryd.isAgg4
  z4 := Tryd.sizeOf4
  v4 := Tryd.zeroValue4
  t5 := Tryd.underlying5
  a5 := Tryd.isAgg5
  z5 := Tryd.sizeOf5
  v5 := Tryd.zeroValue5
  t9 := Tryd.underlying9
  a9 := Tryd.isAgg9
  z9 := Tryd.sizeOf9
  v9 := Tryd.zeroValue9
  t26 := Tryd.underlying30
  a26 := Tryd.isAgg30
  z26 := Tryd.sizeOf30
  v26 := Tryd.zeroValue30
  t27 := Tryd.underlying30
  a27 := Tryd.isAgg30
  z27 := Tryd.sizeOf30
  v27 := Tryd.zeroValue30
  t29 := Tryd.underlying9
  a29 := Tryd.isAgg9
  z29 := Tryd.sizeOf9
  v29 := Tryd.zeroValue9
  t32 := Tryd.underlying89
  a32 := Tryd.isAgg89
  z32 := Tryd.sizeOf89
  v32 := Tryd.zeroValue89
  t35 := Tryd.underlying110
  a35 := Tryd.isAgg110
  z35 := Tryd.sizeOf110
  v35 := Tryd.zeroValue110
  t36 := Tryd.underlying111
  a36 := Tryd.isAgg111
  z36 := Tryd.sizeOf111
  v36 := Tryd.zeroValue111
  t41 := Tryd.underlying116
  a41 := Tryd.isAgg116
  z41 := Tryd.sizeOf116
  v41 := Tryd.zeroValue116
  t44 := Tryd.underlying119
  a44 := Tryd.isAgg119
  z44 := Tryd.sizeOf119
  v44 := Tryd.zeroValue119
  t46 := Tryd.underlying121
  a46 := Tryd.isAgg121
  z46 := Tryd.sizeOf121
  v46 := Tryd.zeroValue121
  t53 := Tryd.underlying130
  a53 := Tryd.isAgg130
  z53 := Tryd.sizeOf130
  v53 := Tryd.zeroValue130
  t57 := Tryd.underlying134
  a57 := Tryd.isAgg134
  z57 := Tryd.sizeOf134
  v57 := Tryd.zeroValue134
  t63 := Tryd.underlying144
  a63 := Tryd.isAgg144
  z63 := Tryd.sizeOf144
  v63 := Tryd.zeroValue144
  t64 := Tryd.underlying145
  a64 := Tryd.isAgg145
  z64 := Tryd.sizeOf145
  v64 := Tryd.zeroValue145 }
end Go.Proofs.YtbfomgchjlkopaaDoor
