/-
  Abstract states: numbers, strings, bools, literals.
-/
import Derived.Test.YthgackidonocpaaAb6
import Derived.IntWalk
namespace Go.Proofs.Ythgackidonocpaa
open Go.RowKit

theorem str_toList (s : ByteArray) : s.toList = s.data.toList := ByteArray.toList_eq s
theorem str_eq {a b : ByteArray} : (a.toList == b.toList) = decide (a = b) := by
  by_cases h : a = b
  · subst h; simp
  · have : ¬ a.toList = b.toList := fun e => h (ByteArray.ext (Array.toList_inj.1 (by rwa [str_toList, str_toList] at e)))
    simp [h, this]

section
variable {P : Program} {F : Frm} {L : Tab} {d : Option Tmp} {ty : TypeId} {pos : String} {aft : Array Edge} {g : Option (Nat × Bool)} {ρ : Operand → AV} {hp : List Blk} {K : AV → List Blk → Prop}

/-- an operation on two literals -/
theorem lo_bin {op : BinOp} {t t' : TypeId} {x y : Operand} {a b v : Value} (hx : ρ x = .c (.lit a)) (hy : ρ y = .c (.lit b)) (hg : ∀ w, (eqGuard op t x y a b).run P w = .ok () w) (hr : ∀ w, (binOp op t a b).run P w = .ok v w) (h : K (.c (.lit v)) hp) : LO P F ⟨d, .binOp op t x y t', ty, pos, aft, g⟩ ρ hp K := by
  refine LO.same (fun M e w he hh => ?_) h
  have h1 := he x (by first | (simp [Op.operands]; done) | simp [Op.operands, Call.operands])
  rw [hx] at h1
  simp only [RA, RT] at h1
  have h2 := he y (by first | (simp [Op.operands]; done) | simp [Op.operands, Call.operands])
  rw [hy] at h2
  simp only [RA, RT] at h2
  exact ⟨v, by simp [execOp, h1, h2, hg, hr], by simp only [RA, RT]⟩
theorem guard_int {op : BinOp} {t : TypeId} {x y : Operand} {k k' : IntKind} {a b : Int} (w : World) : (eqGuard op t x y (.int k a) (.int k' b)).run P w = .ok () w := by
  unfold eqGuard; simp
theorem guard_str {op : BinOp} {t : TypeId} {x y : Operand} {a b : ByteArray} (w : World) : (eqGuard op t x y (.string a) (.string b)).run P w = .ok () w := by
  unfold eqGuard; simp
theorem guard_bool {op : BinOp} {t : TypeId} {x y : Operand} {a b : Bool} (w : World) : (eqGuard op t x y (.bool a) (.bool b)).run P w = .ok () w := by
  unfold eqGuard; simp

variable {t t' : TypeId} {x y : Operand} {k : IntKind} {a b : Int}
theorem lo_lss (hx : ρ x = .c (.lit (.int k a))) (hy : ρ y = .c (.lit (.int k b))) (h : K (.c (.lit (.bool (decide (a < b))))) hp) : LO P F ⟨d, .binOp .lss t x y t', ty, pos, aft, g⟩ ρ hp K :=
  lo_bin hx hy guard_int (fun w => by simp [binOp, Op.intCmp]) h
theorem lo_leq (hx : ρ x = .c (.lit (.int k a))) (hy : ρ y = .c (.lit (.int k b))) (h : K (.c (.lit (.bool (decide (a ≤ b))))) hp) : LO P F ⟨d, .binOp .leq t x y t', ty, pos, aft, g⟩ ρ hp K :=
  lo_bin hx hy guard_int (fun w => by simp [binOp, Op.intCmp]) h
theorem lo_gtr (hx : ρ x = .c (.lit (.int k a))) (hy : ρ y = .c (.lit (.int k b))) (h : K (.c (.lit (.bool (decide (b < a))))) hp) : LO P F ⟨d, .binOp .gtr t x y t', ty, pos, aft, g⟩ ρ hp K :=
  lo_bin hx hy guard_int (fun w => by simp [binOp, Op.intCmp]) h
theorem lo_geq (hx : ρ x = .c (.lit (.int k a))) (hy : ρ y = .c (.lit (.int k b))) (h : K (.c (.lit (.bool (decide (b ≤ a))))) hp) : LO P F ⟨d, .binOp .geq t x y t', ty, pos, aft, g⟩ ρ hp K :=
  lo_bin hx hy guard_int (fun w => by simp [binOp, Op.intCmp]) h
theorem lo_eql (hx : ρ x = .c (.lit (.int k a))) (hy : ρ y = .c (.lit (.int k b))) (h : K (.c (.lit (.bool (decide (a = b))))) hp) : LO P F ⟨d, .binOp .eql t x y t', ty, pos, aft, g⟩ ρ hp K :=
  lo_bin hx hy guard_int (fun w => by simp [binOp, Op.intCmp]; rfl) h
theorem lo_neq (hx : ρ x = .c (.lit (.int k a))) (hy : ρ y = .c (.lit (.int k b))) (h : K (.c (.lit (.bool (!decide (a = b))))) hp) : LO P F ⟨d, .binOp .neq t x y t', ty, pos, aft, g⟩ ρ hp K :=
  lo_bin hx hy guard_int (fun w => by simp [binOp, Op.intCmp]; rfl) h
theorem lo_add (hx : ρ x = .c (.lit (.int k a))) (hy : ρ y = .c (.lit (.int k b))) {r : Int} (hr : k.wrap (a + b) = r) (h : K (.c (.lit (.int k r))) hp) : LO P F ⟨d, .binOp .add t x y t', ty, pos, aft, g⟩ ρ hp K :=
  lo_bin hx hy guard_int (fun w => by simp [binOp, Op.intArith, hr]) h
theorem lo_sub (hx : ρ x = .c (.lit (.int k a))) (hy : ρ y = .c (.lit (.int k b))) {r : Int} (hr : k.wrap (a - b) = r) (h : K (.c (.lit (.int k r))) hp) : LO P F ⟨d, .binOp .sub t x y t', ty, pos, aft, g⟩ ρ hp K :=
  lo_bin hx hy guard_int (fun w => by simp [binOp, Op.intArith, hr]) h
theorem lo_mul (hx : ρ x = .c (.lit (.int k a))) (hy : ρ y = .c (.lit (.int k b))) {r : Int} (hr : k.wrap (a * b) = r) (h : K (.c (.lit (.int k r))) hp) : LO P F ⟨d, .binOp .mul t x y t', ty, pos, aft, g⟩ ρ hp K :=
  lo_bin hx hy guard_int (fun w => by simp [binOp, Op.intArith, hr]) h
theorem lo_quo (hx : ρ x = .c (.lit (.int k a))) (hy : ρ y = .c (.lit (.int k b))) {r : Int} (h0 : ¬ b = 0) (hr : k.wrap (a.tdiv b) = r) (h : K (.c (.lit (.int k r))) hp) : LO P F ⟨d, .binOp .quo t x y t', ty, pos, aft, g⟩ ρ hp K :=
  lo_bin hx hy guard_int (fun w => by simp [binOp, Op.intDiv, h0, hr]) h
theorem lo_rem (hx : ρ x = .c (.lit (.int k a))) (hy : ρ y = .c (.lit (.int k b))) {r : Int} (h0 : ¬ b = 0) (hr : a.tmod b = r) (h : K (.c (.lit (.int k r))) hp) : LO P F ⟨d, .binOp .rem t x y t', ty, pos, aft, g⟩ ρ hp K :=
  lo_bin hx hy guard_int (fun w => by simp [binOp, Op.intDiv, h0, hr]) h
/-- the next number: no bound is passed -/
theorem lo_inc {n : Nat} (hx : ρ x = .c (.lit (.int .i64 n))) (hy : ρ y = .c (.lit (.int .i64 1))) (hb : n < 9223372036854775807) (h : K (.c (.lit (.int .i64 ((n + 1 : Nat) : Int)))) hp) : LO P F ⟨d, .binOp .add t x y t', ty, pos, aft, g⟩ ρ hp K :=
  lo_add hx hy (by rw [IntWalk.i64_in _ (by omega)]; omega) h

variable {s s' : ByteArray}
theorem lo_eqs (hx : ρ x = .c (.lit (.string s))) (hy : ρ y = .c (.lit (.string s'))) (h : K (.c (.lit (.bool (decide (s = s'))))) hp) : LO P F ⟨d, .binOp .eql t x y t', ty, pos, aft, g⟩ ρ hp K :=
  lo_bin hx hy guard_str (fun w => by simp only [binOp, Op.stringOp, str_eq, Sem.run_pure]) h
theorem lo_nes (hx : ρ x = .c (.lit (.string s))) (hy : ρ y = .c (.lit (.string s'))) (h : K (.c (.lit (.bool (!decide (s = s'))))) hp) : LO P F ⟨d, .binOp .neq t x y t', ty, pos, aft, g⟩ ρ hp K :=
  lo_bin hx hy guard_str (fun w => by simp only [binOp, Op.stringOp, str_eq, Sem.run_pure]) h
theorem lo_cat (hx : ρ x = .c (.lit (.string s))) (hy : ρ y = .c (.lit (.string s'))) (hb : s.size + s'.size ≤ 9223372036854775807) (h : K (.c (.lit (.string (s ++ s')))) hp) : LO P F ⟨d, .binOp .add t x y t', ty, pos, aft, g⟩ ρ hp K :=
  lo_bin hx hy guard_str (fun w => by
    have : ¬ ((s.size + s'.size : Nat) : Int) > IntKind.i64.max := by simp [IntKind.max, IntKind.signed, IntKind.bits]; omega
    simp only [binOp, Op.stringOp, if_neg this, Sem.run_pure]) h
def strLt (a b : ByteArray) : Bool := Op.bytesLess a.toList b.toList
theorem lo_lts (hx : ρ x = .c (.lit (.string s))) (hy : ρ y = .c (.lit (.string s'))) (h : K (.c (.lit (.bool (strLt s s')))) hp) : LO P F ⟨d, .binOp .lss t x y t', ty, pos, aft, g⟩ ρ hp K :=
  lo_bin hx hy guard_str (fun w => by simp only [binOp, Op.stringOp, strLt, Sem.run_pure]) h
theorem lo_gts (hx : ρ x = .c (.lit (.string s))) (hy : ρ y = .c (.lit (.string s'))) (h : K (.c (.lit (.bool (!(strLt s s' || decide (s = s')))))) hp) : LO P F ⟨d, .binOp .gtr t x y t', ty, pos, aft, g⟩ ρ hp K :=
  lo_bin hx hy guard_str (fun w => by simp only [binOp, Op.stringOp, strLt, str_eq, Sem.run_pure]) h
theorem lo_les (hx : ρ x = .c (.lit (.string s))) (hy : ρ y = .c (.lit (.string s'))) (h : K (.c (.lit (.bool (strLt s s' || decide (s = s'))))) hp) : LO P F ⟨d, .binOp .leq t x y t', ty, pos, aft, g⟩ ρ hp K :=
  lo_bin hx hy guard_str (fun w => by simp only [binOp, Op.stringOp, strLt, str_eq, Sem.run_pure]) h
theorem lo_ges (hx : ρ x = .c (.lit (.string s))) (hy : ρ y = .c (.lit (.string s'))) (h : K (.c (.lit (.bool (!strLt s s')))) hp) : LO P F ⟨d, .binOp .geq t x y t', ty, pos, aft, g⟩ ρ hp K :=
  lo_bin hx hy guard_str (fun w => by simp only [binOp, Op.stringOp, strLt, Sem.run_pure]) h
theorem lo_not {c : Bool} (hx : ρ x = .c (.lit (.bool c))) (h : K (.c (.lit (.bool !c))) hp) : LO P F ⟨d, .unOp .not t x, ty, pos, aft, g⟩ ρ hp K := by
  refine LO.same (fun M e w he hh => ?_) h
  have h1 := he x (by first | (simp [Op.operands]; done) | simp [Op.operands, Call.operands])
  rw [hx] at h1
  simp only [RA, RT] at h1
  exact ⟨_, by simp [execOp, h1, Op.unary]; rfl, by simp only [RA, RT]⟩
theorem lo_neg (hx : ρ x = .c (.lit (.int k a))) {r : Int} (hr : k.wrap (0 - a) = r) (h : K (.c (.lit (.int k r))) hp) : LO P F ⟨d, .unOp .neg t x, ty, pos, aft, g⟩ ρ hp K := by
  refine LO.same (fun M e w he hh => ?_) h
  have h1 := he x (by first | (simp [Op.operands]; done) | simp [Op.operands, Call.operands])
  rw [hx] at h1
  simp only [RA, RT] at h1
  exact ⟨.int k r, by simp only [Int.zero_sub] at hr; simp [execOp, h1, Op.unary, Op.intArith, hr], by simp only [RA, RT]⟩
theorem lo_conv (hL : TabOk P L) {ti : TI} {u : TypeId} {k' : IntKind} (hx : ρ x = .c (.lit (.int k a))) (ht : L.look t = some ti) (hd : ti.d = .int k') {tu : TI} (hu : L.look u = some tu) {r : Int} (hr : k'.wrap a = r) (h : K (.c (.lit (.int k' r))) hp) : LO P F ⟨d, .convert u t x, ty, pos, aft, g⟩ ρ hp K := by
  refine LO.same (fun M e w he hh => ?_) h
  have h1 := he x (by first | (simp [Op.operands]; done) | simp [Op.operands, Call.operands])
  rw [hx] at h1
  simp only [RA, RT] at h1
  obtain ⟨du, hdu, _⟩ := hL.desc hu
  refine ⟨.int k' r, ?_, by simp only [RA, RT]⟩
  simp only [execOp, h1, convert, Sem.run_bind, run_underlying hdu, run_underlying (hL.int ht hd), Result.andThen_ok]
  cases du <;> simp [Conv.intToInt, hr]
end

end Go.Proofs.Ythgackidonocpaa
