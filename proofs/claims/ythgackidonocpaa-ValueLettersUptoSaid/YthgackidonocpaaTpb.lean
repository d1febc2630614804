/-
  Plain words: numbers with a sign as bytes, values as bytes; what holds of every node of a value.
-/
import Derived.Test.YthgackidonocpaaTuv
import Derived.Test.YthgackidonocpaaTsm
namespace Go.Proofs.Ythgackidonocpaa
open Go.RowKit

/-- 0, -1, 1, -2, 2 and so on as 0, 1, 2, 3, 4 -/
def zz (n : Int) : Nat := if 0 ≤ n then (2 * n).toNat else (2 * (-n - 1) + 1).toNat
def inI (n : Int) : Prop := -9223372036854775808 ≤ n ∧ n ≤ 9223372036854775807
theorem zz_lt {n : Int} (h : inI n) : zz n < 2 ^ 64 := by
  unfold zz; unfold inI at h
  split <;> omega
/-- a number's lowest byte -/
def kb (k : Int) : UInt8 := UInt8.ofNat (k % 256).toNat
mutual
def V.bytes : V → List UInt8
  | .mk k n t l => kb k :: (uv (zz n) ++ (uv t.size ++ (t.data.toList ++ (uv l.length ++ V.bytesAll l))))
def V.bytesAll : List V → List UInt8
  | [] => []
  | v :: r => v.bytes ++ V.bytesAll r
end
theorem V.bytesAll_eq : ∀ l : List V, V.bytesAll l = l.flatMap V.bytes
  | [] => rfl
  | v :: l => by rw [V.bytesAll, V.bytesAll_eq l]; rfl
mutual
/-- every number is in range -/
def V.ok : V → Prop
  | .mk _ n _ l => inI n ∧ V.oks l
def V.oks : List V → Prop
  | [] => True
  | v :: r => v.ok ∧ V.oks r
end
theorem V.oks_iff : ∀ l : List V, V.oks l ↔ ∀ v ∈ l, v.ok
  | [] => by simp [V.oks]
  | v :: l => by simp [V.oks, V.oks_iff l]
mutual
/-- the bytes of its texts -/
def V.txt : V → Nat
  | .mk _ _ t l => t.size + V.txts l
def V.txts : List V → Nat
  | [] => 0
  | v :: r => v.txt + V.txts r
end
theorem uv_len_pos (n : Nat) : 1 ≤ (uv n).length := by
  by_cases h : n < 128
  · rw [uv_small h]; simp
  · rw [uv_big h]; simp
mutual
theorem V.bytes_len : ∀ v : V, v.ok → v.size ≤ 1048576 → v.txt ≤ 1048576 → v.bytes.length ≤ 32 * v.size + v.txt
  | .mk k n t l, ho, hs, ht => by
    simp only [V.ok, V.size, V.txt] at ho hs ht
    have h1 := uv_len64 (zz_lt ho.1)
    have h2 := uv_len64 (n := t.size) (by omega)
    have h3 := uv_len64 (n := l.length) (by have := V.len_sizes l; omega)
    have h4 := V.bytesAll_len l ho.2 (by omega) (by omega)
    simp only [V.bytes, V.size, V.txt, List.length_cons, List.length_append, sz_len]
    omega
theorem V.bytesAll_len : ∀ l : List V, V.oks l → V.sizes l ≤ 1048576 → V.txts l ≤ 1048576 → (V.bytesAll l).length ≤ 32 * V.sizes l + V.txts l
  | [], _, _, _ => by simp [V.bytesAll]
  | v :: l, ho, hs, ht => by
    simp only [V.oks, V.sizes, V.txts] at ho hs ht
    have h1 := V.bytes_len v ho.1 (by omega) (by omega)
    have h2 := V.bytesAll_len l ho.2 (by omega) (by omega)
    simp only [V.bytesAll, V.sizes, V.txts, List.length_append]
    omega
end
mutual
/-- every node of it, with how deep it lies -/
def V.every (p : V → Nat → Bool) : V → Nat → Bool
  | .mk k n t l, d => p (.mk k n t l) d && V.everys p l (d + 1)
def V.everys (p : V → Nat → Bool) : List V → Nat → Bool
  | [], _ => true
  | v :: r, d => v.every p d && V.everys p r d
end
theorem V.everys_eq (p : V → Nat → Bool) (d : Nat) : ∀ l : List V, V.everys p l d = l.all fun v => v.every p d
  | [] => rfl
  | v :: l => by rw [V.everys, V.everys_eq p d l]; rfl
def V.num : V → Int
  | .mk _ n _ _ => n
def V.kind : V → Int
  | .mk k _ _ _ => k
def V.text : V → ByteArray
  | .mk _ _ t _ => t

end Go.Proofs.Ythgackidonocpaa
