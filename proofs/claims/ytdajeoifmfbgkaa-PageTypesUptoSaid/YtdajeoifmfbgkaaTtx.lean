/-
  The text of a type: what show.Type and roadref5.TypeText write.
-/
import Derived.Test.YtdajeoifmfbgkaaTy
import Derived.Test.YtdajeoifmfbgkaaTjn
import Derived.Test.YtdajeoifmfbgkaaAb15
namespace Go.Proofs.Ytdajeoifmfbgkaa
open Go.RowKit

def txt (k : Int) (nm : ByteArray) (xs : List ByteArray) : ByteArray :=
  if k = 1 then ⟨#[105, 110, 116]⟩ else if k = 2 then ⟨#[98, 111, 111, 108]⟩ else if k = 3 then ⟨#[116, 101, 120, 116]⟩ else if k = 4 then ⟨#[117, 110, 105, 116]⟩ else if k = 5 then nm
  else if k = 6 then (if xs.length = 0 then nm else nm ++ ⟨#[40]⟩ ++ joinS xs ⟨#[44, 32]⟩ ++ ⟨#[41]⟩)
  else if k = 7 then (if xs.length = 0 then ⟨#[63]⟩ else ⟨#[102, 110, 40]⟩ ++ joinS (xs.take (xs.length - 1)) ⟨#[44, 32]⟩ ++ ⟨#[41, 58, 32]⟩ ++ xs.getD (xs.length - 1) ⟨#[]⟩)
  else if k = 8 then ⟨#[82, 101, 102, 40]⟩ ++ joinS xs ⟨#[44, 32]⟩ ++ ⟨#[41]⟩
  else if k = 9 then ⟨#[67, 101, 108, 108, 40]⟩ ++ joinS xs ⟨#[44, 32]⟩ ++ ⟨#[41]⟩
  else ⟨#[63]⟩
mutual
def Y.text : Y → ByteArray
  | .mk k nm l => txt k nm (Y.texts l)
def Y.texts : List Y → List ByteArray
  | [] => []
  | y :: l => y.text :: Y.texts l
end
theorem Y.texts_eq : ∀ l : List Y, Y.texts l = l.map Y.text
  | [] => rfl
  | y :: l => by rw [Y.texts, Y.texts_eq l]; rfl
/-- the bytes of all, and two more for each -/
def lensS (xs : List ByteArray) : Nat := (xs.map fun s => s.size + 2).sum
theorem lens_eq : ∀ xs : List ByteArray, Lib.lens (xs.map (·.data.toList)) + 2 * xs.length = lensS xs
  | [] => by simp [Lib.lens, lensS]
  | s :: xs => by
    have := lens_eq xs
    simp only [Lib.lens, lensS, List.map_cons, List.sum_cons, List.length_cons, Array.length_toList, ByteArray.size_data] at this ⊢
    omega
theorem joinS_len (xs : List ByteArray) : (Lib.join (xs.map (·.data.toList)) (⟨#[44, 32]⟩ : ByteArray).data.toList).length ≤ lensS xs := by
  cases xs with
  | nil => simp [Lib.join_nil]
  | cons s xs =>
    have h1 := lens_eq (s :: xs)
    rw [List.map_cons] at h1 ⊢
    rw [Lib.join_length, ← h1]
    simp
    omega
theorem joinS_size (xs : List ByteArray) : (joinS xs ⟨#[44, 32]⟩).size ≤ lensS xs := by
  have := joinS_len xs
  simpa [joinS, ByteArray.size] using this
theorem lensS_take (xs : List ByteArray) (k : Nat) : lensS (xs.take k) ≤ lensS xs := by
  have : lensS xs = lensS (xs.take k) + lensS (xs.drop k) := by
    unfold lensS
    rw [← List.sum_append, ← List.map_append, List.take_append_drop]
  omega
theorem lensS_mem {xs : List ByteArray} {s : ByteArray} (h : s ∈ xs) : s.size ≤ lensS xs := by
  induction xs with
  | nil => simp at h
  | cons x xs ih =>
    simp only [lensS, List.map_cons, List.sum_cons]
    rcases List.mem_cons.1 h with rfl | h
    · omega
    · have := ih h; unfold lensS at this; omega
theorem lensS_len (xs : List ByteArray) : xs.length ≤ lensS xs := by rw [← lens_eq]; omega

end Go.Proofs.Ytdajeoifmfbgkaa
