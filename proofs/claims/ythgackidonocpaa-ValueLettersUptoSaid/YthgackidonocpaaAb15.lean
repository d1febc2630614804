/-
  Abstract states: parts of rows.
-/
import Derived.Test.YthgackidonocpaaAb14
namespace Go.Proofs.Ythgackidonocpaa
open Go.RowKit

section
variable {P : Program} {F : Frm} {L : Tab} {d : Option Tmp} {ty : TypeId} {pos : String} {aft : Array Edge} {g : Option (Nat × Bool)} {ρ : Operand → AV} {hp : List Blk} {K : AV → List Blk → Prop}

theorem rt_part {M : Mm} {n sz l h : Nat} {cs : List T} {A : Option Addr} {c : Nat} (hr : RT M (.row n sz cs) (.slice A n c)) (hlh : l ≤ h) (hhn : h ≤ n) :
    RT M (.row (h - l) sz ((cs.drop (l * sz)).take ((h - l) * sz))) (.slice (if c = l then A else A.map (·.add (l * sz))) (h - l) (c - l)) := by
  simp only [RT] at hr ⊢
  obtain ⟨A', c', xs, e, hc, hm, h0, hx, hat, hrt⟩ := hr
  injection e with e1 _ e2
  subst e1; subst e2
  have hle : (h - l) * sz ≤ n * sz - l * sz := by rw [← Nat.sub_mul]; exact Nat.mul_le_mul_right _ (by omega)
  refine ⟨_, _, (xs.drop (l * sz)).take ((h - l) * sz), rfl, by omega, by omega, h0, by simp [hx]; omega, fun hpos => ?_, (hrt.drop _).take _⟩
  obtain ⟨ad, rfl, hA⟩ := hat (by omega)
  rw [if_neg (by omega)]
  refine ⟨_, rfl, fun j x hj => ?_⟩
  rw [add_add']
  refine hA _ _ ?_
  rw [List.getElem?_take] at hj
  split at hj
  · rw [List.getElem?_drop] at hj; exact hj
  · cases hj
theorem lo_part_hi (hL : TabOk P L) {t el : TypeId} {ti te : TI} {x y : Operand} {n sz : Nat} {cs : List T} {k : IntKind} {z : Int} (h : Nat) (hh : h ≤ n) (hx : ρ x = .c (.row n sz cs)) (hy : ρ y = .c (.lit (.int k z))) (hz : z = (h : Int)) (ht : L.look t = some ti) (hd : ti.d = .slice el) (hte : L.look el = some te) (hsz : te.size = sz)
    (hK : K (.c (.row h sz (cs.take (h * sz)))) hp) : LO P F ⟨d, .slice t x none (some y) none, ty, pos, aft, g⟩ ρ hp K := by
  refine LO.same (fun M e w he _ => ?_) hK
  have h1 := he x (by simp [Op.operands])
  rw [hx] at h1
  simp only [RA] at h1
  have h2 := he y (by simp [Op.operands])
  rw [hy] at h2
  simp only [RA, RT] at h2
  have h3 := h1
  simp only [RT] at h3
  obtain ⟨A, c, xs, hu, hc, _⟩ := h3
  rw [hu] at h1
  refine ⟨_, ?_, by simp only [RA]; simpa using rt_part (l := 0) h1 (Nat.zero_le _) hh⟩
  subst hz
  have hb := run_sliceBound (P := P) (w := w) k (h : Int) c .sliceAcap (by omega) (by omega)
  simp [execOp, Instr.sliceAt, Instr.slice, Instr.sliceBounds, hu, h2, run_underlying (hL.slice ht hd), hL.sizeOf hte, hb, hsz]
theorem lo_part_lo (hL : TabOk P L) {t el : TypeId} {ti te : TI} {x y : Operand} {n sz : Nat} {cs : List T} {k : IntKind} {z : Int} (l : Nat) (hl : l ≤ n) (hx : ρ x = .c (.row n sz cs)) (hy : ρ y = .c (.lit (.int k z))) (hz : z = (l : Int)) (ht : L.look t = some ti) (hd : ti.d = .slice el) (hte : L.look el = some te) (hsz : te.size = sz)
    (hK : K (.c (.row (n - l) sz ((cs.drop (l * sz)).take ((n - l) * sz)))) hp) : LO P F ⟨d, .slice t x (some y) none none, ty, pos, aft, g⟩ ρ hp K := by
  refine LO.same (fun M e w he _ => ?_) hK
  have h1 := he x (by simp [Op.operands])
  rw [hx] at h1
  simp only [RA] at h1
  have h2 := he y (by simp [Op.operands])
  rw [hy] at h2
  simp only [RA, RT] at h2
  have h3 := h1
  simp only [RT] at h3
  obtain ⟨A, c, xs, hu, hc, _⟩ := h3
  rw [hu] at h1
  refine ⟨_, ?_, by simp only [RA]; exact rt_part (l := l) h1 hl (Nat.le_refl _)⟩
  subst hz
  have hb := run_sliceBound (P := P) (w := w) k (l : Int) n .sliceB (by omega) (by omega)
  simp [execOp, Instr.sliceAt, Instr.slice, Instr.sliceBounds, hu, h2, run_underlying (hL.slice ht hd), hL.sizeOf hte, hb, hsz]
theorem zPh {t el : TypeId} {ti te : TI} {x y : Operand} {n sz : Nat} {cs : List T} {k : IntKind} {z : Int} (h : Nat) (hh : h ≤ n) (hz : z = (h : Int)) (hK : K (.c (.row h sz (cs.take (h * sz)))) hp) (hL : TabOk P L := by exact tok) (hx : ρ x = .c (.row n sz cs) := by exact rfl) (hy : ρ y = .c (.lit (.int k z)) := by exact rfl) (ht : L.look t = some ti := by exact rfl) (hd : ti.d = .slice el := by exact rfl) (hte : L.look el = some te := by exact rfl) (hsz : te.size = sz := by exact rfl) : LO P F ⟨d, .slice t x none (some y) none, ty, pos, aft, g⟩ ρ hp K :=
  lo_part_hi hL h hh hx hy hz ht hd hte hsz hK
theorem zSub {t t' : TypeId} {x y : Operand} {a b : Int} (h : K (.c (.lit (.int .i64 (a - b)))) hp) (hx : ρ x = .c (.lit (.int .i64 a)) := by exact rfl) (hy : ρ y = .c (.lit (.int .i64 b)) := by exact rfl) (hr : -9223372036854775808 ≤ a - b ∧ a - b ≤ 9223372036854775807 := by first | omega | (dsimp only at *; omega)) : LO P F ⟨d, .binOp .sub t x y t', ty, pos, aft, g⟩ ρ hp K :=
  lo_sub hx hy (IntWalk.i64_in _ hr) h
theorem bs_size (a : Array UInt8) : (ByteArray.mk a).size = a.size := rfl
theorem zCat {t t' : TypeId} {x y : Operand} {s s' : ByteArray} (h : K (.c (.lit (.string (s ++ s')))) hp) (hx : ρ x = .c (.lit (.string s)) := by exact rfl) (hy : ρ y = .c (.lit (.string s')) := by exact rfl) (hb : s.size + s'.size ≤ 9223372036854775807 := by first | (simp only [ByteArray.size_append, bs_size, List.size_toArray, List.length_cons, List.length_nil]; omega) | omega) : LO P F ⟨d, .binOp .add t x y t', ty, pos, aft, g⟩ ρ hp K :=
  lo_cat hx hy hb h
end

def strTs (s : ByteArray) : List T := [.lit (.string s)]
def strRow (l : List ByteArray) : T := .row l.length 1 (l.flatMap strTs)
theorem str_at {l : List ByteArray} {k : Nat} {s : ByteArray} (h : l[k]? = some s) : (l.flatMap strTs)[k]? = some (.lit (.string s)) := by
  have := flat_get strTs 1 (fun _ => rfl) h (j := 0) (by omega)
  simpa [strTs] using this

end Go.Proofs.Ythgackidonocpaa
