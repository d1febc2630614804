/-
  Arguments opened as trees: rows of bytes.
-/
import Derived.Test.YthgackidonocpaaOpenT
import Derived.Test.YthgackidonocpaaAb21
namespace Go.Proofs.Ythgackidonocpaa
open Go.ChangeShapes Go.WideShapes Go.ChangeAt Go.RowKit Go.Deep

section
variable {H : Type} {enc : TypeId × Value → H} {P : Program} {w : World} {base : Nat} {spare : Nat → Bool} {held : Bool}
instance : Inhabited UInt8 := ⟨0⟩
theorem opens_u8 {t : TypeId} {fuel : Nat} (ht : P.underlying t = some (.int .u8)) : Opens enc P w base spare held t (fun b : UInt8 => [bytT b]) (fun _ => 1) fuel := by
  intro cs x h
  obtain ⟨i, rfl, rfl, hw⟩ := DataW.trod_int ht h
  have hin : 0 ≤ i ∧ i < 256 := by
    simp [Lit.wf, IntKind.min, IntKind.max, IntKind.bits, IntKind.signed] at hw
    omega
  have hb : (((UInt8.ofNat i.toNat).toNat : Nat) : Int) = i := by
    rw [UInt8.toNat_ofNat', Nat.mod_eq_of_lt (by omega)]
    omega
  exact ⟨UInt8.ofNat i.toNat, by simp only [RTs, RT, bytT, hb]; exact ⟨_, _, rfl, rfl, rfl⟩, fun u hu => by simp at hu; subst hu; rfl, bulk_one _⟩
theorem flat_byt : ∀ l : List UInt8, (l.flatMap fun b => [bytT b]) = byts l
  | [] => rfl
  | b :: l => by simp [byts, flat_byt l]
theorem sum_one {α : Type} : ∀ l : List α, (l.map fun _ => 1).sum = l.length
  | [] => rfl
  | _ :: l => by simp only [List.map_cons, List.sum_cons, sum_one l, List.length_cons]; omega
theorem opensB (fuel : Nat) : Opens enc Try.prog w base spare held 27 (fun l : List UInt8 => [bytRow l]) (fun l => l.length + 1) fuel := by
  intro cs x h
  obtain ⟨l, h1, h2, h3⟩ := opens_slice (fun b : UInt8 => [bytT b]) (fun _ => 1) 1 (by omega) (fun _ => rfl) Try.underlying27 (by kernel_rfl) (fun m _ => opens_u8 Try.underlying5) cs x h
  dsimp only at h1 h3
  rw [flat_byt] at h1
  rw [sum_one] at h3
  exact ⟨l, h1, h2, h3⟩
end

end Go.Proofs.Ythgackidonocpaa
