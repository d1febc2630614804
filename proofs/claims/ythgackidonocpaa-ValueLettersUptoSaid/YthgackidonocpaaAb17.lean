/-
  Abstract states: facts on lengths out of what a slot holds.
-/
import Derived.Test.YthgackidonocpaaAb16
namespace Go.Proofs.Ythgackidonocpaa
open Go.RowKit

section
variable {P : Program} {F : Frm} {c : Code} {Q : Exit → AS → Prop} {τ : Nat → AV} {hp : List Blk} {N : Nat}
theorem x_fact (s : Nat) {t : T} {X : Prop} (hs : τ s = .c t) (hrt : ∀ M u, RT M t u → X) (h : X → AC P F c Q ⟨τ, hp, N⟩) : AC P F c Q ⟨τ, hp, N⟩ :=
  ⟨fun M a w hr => (h (hrt M _ (by
    have h1 := hr.tmps s
    rw [show (AS.mk τ hp N).tmps s = AV.c t from hs] at h1
    simpa only [RA] using h1))).out M a w hr⟩
theorem rt_len {M : Mm} {n sz : Nat} {cs : List T} {u : Value} (h : RT M (.row n sz cs) u) : n ≤ 9223372036854775807 := by
  simp only [RT] at h
  obtain ⟨A, k, xs, h1, h2, h3, _⟩ := h
  simpa [maxLen] using h3
theorem x_len (s : Nat) {n sz : Nat} {cs : List T} (hs : τ s = .c (.row n sz cs)) (h : n ≤ 9223372036854775807 → AC P F c Q ⟨τ, hp, N⟩) : AC P F c Q ⟨τ, hp, N⟩ := x_fact s hs (fun _ _ h => rt_len h) h
theorem x_pinlen (s j : Nat) {ts : List T} {off n sz : Nat} {cs : List T} (hs : τ s = .c (.pin ts off)) (hj : ts[j]? = some (.row n sz cs)) (h : n ≤ 9223372036854775807 → AC P F c Q ⟨τ, hp, N⟩) : AC P F c Q ⟨τ, hp, N⟩ :=
  x_fact s hs (fun M u hr => by
    simp only [RT] at hr
    obtain ⟨ad, xs, _, _, h3⟩ := hr
    obtain ⟨x, _, h4⟩ := h3.get hj
    exact rt_len h4) h
end

def isBool (P : Program) (t : TypeId) : Bool := match P.underlying t with | some .bool => true | _ => false
theorem isBool_eq {P : Program} {t : TypeId} (h : isBool P t = true) : P.underlying t = some .bool := by
  unfold isBool at h
  split at h
  · assumption
  · cases h
theorem run_eqb {P : Program} {t : TypeId} (h : isBool P t = true) (a b : Bool) (w : World) : (Op.equal t (.bool a) (.bool b)).run P w = .ok (decide (a = b)) w := by
  have he := isBool_eq h
  rw [Op.equal, show Op.maxDepth = 9999 + 1 from rfl, Op.equalIn]
  simp only [Sem.run_bind, run_underlying he, Result.andThen_ok]
  cases a <;> cases b <;> rfl
section
variable {P : Program} {F : Frm} {L : Tab} {d : Option Tmp} {ty : TypeId} {pos : String} {aft : Array Edge} {g : Option (Nat × Bool)} {ρ : Operand → AV} {hp : List Blk} {K : AV → List Blk → Prop} {t t' : TypeId} {x y : Operand} {a b : Bool}
theorem zB5 (h : K (.c (.lit (.bool (decide (a = b))))) hp) (hx : ρ x = .c (.lit (.bool a)) := by exact rfl) (hy : ρ y = .c (.lit (.bool b)) := by exact rfl) (hu : isBool P t = true := by kernel_rfl) : LO P F ⟨d, .binOp .eql t x y t', ty, pos, aft, g⟩ ρ hp K :=
  lo_bin hx hy guard_bool (fun w => by simp only [binOp, Sem.run_bind, run_eqb hu, Result.andThen_ok, Sem.run_pure]) h
theorem zB6 (h : K (.c (.lit (.bool (!decide (a = b))))) hp) (hx : ρ x = .c (.lit (.bool a)) := by exact rfl) (hy : ρ y = .c (.lit (.bool b)) := by exact rfl) (hu : isBool P t = true := by kernel_rfl) : LO P F ⟨d, .binOp .neq t x y t', ty, pos, aft, g⟩ ρ hp K :=
  lo_bin hx hy guard_bool (fun w => by simp only [binOp, Sem.run_bind, run_eqb hu, Result.andThen_ok, Sem.run_pure]) h
end

end Go.Proofs.Ythgackidonocpaa
