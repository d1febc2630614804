/-
  Arguments opened: what the row's reading of a slice of bytes, and of a slice of such slices, gives in the words of Mem; what the bound on the bulk gives.
-/
import Derived.Test.YthgackidonocpaaRows
import Derived.Test.YthgackidonocpaaMem
import Derived.ProofKit
import Derived.OpenShut
import Derived.JoinedCond
import Derived.Deep.Slices
namespace Go.Proofs.Ythgackidonocpaa
open Go.ChangeShapes Go.WideShapes Go.ChangeAt Go.RowKit Go.Deep

section
variable {H : Type} {enc : TypeId × Value → H} {P : Program} {w : World} {base : Nat} {spare : Nat → Bool} {held : Bool}

theorem bulk_one (d : DataW H) : 1 ≤ Rows.uptoBulk d := by
  cases d with
  | lit l => cases l <;> simp [Rows.uptoBulk]
  | _ => simp [Rows.uptoBulk]
theorem bulk_app (l r : List (DataW H)) : Rows.uptoBulkAll (l ++ r) = Rows.uptoBulkAll l + Rows.uptoBulkAll r := by
  induction l with
  | nil => simp [Rows.uptoBulkAll]
  | cons x l ih => simp only [List.cons_append, Rows.uptoBulkAll, ih]; omega
theorem bulk_sum (D : Nat → DataW H) (f : Nat → Nat) (c : Nat) : ∀ len, (∀ i, i < len → f i ≤ c * Rows.uptoBulk (D i)) → ((List.range len).map f).sum ≤ c * Rows.uptoBulkAll ((List.range len).map D)
  | 0, _ => by simp
  | len + 1, h => by
    have h1 := bulk_sum D f c len fun i hi => h i (by omega)
    have h2 := h len (by omega)
    rw [List.range_succ, List.map_append, List.map_append, List.sum_append, bulk_app]
    simp only [List.map_cons, List.map_nil, List.sum_cons, List.sum_nil, Rows.uptoBulkAll, Nat.mul_add]
    omega
theorem bulk_len (D : Nat → DataW H) (len : Nat) : len ≤ Rows.uptoBulkAll ((List.range len).map D) := by
  induction len with
  | zero => simp
  | succ k ih =>
    have := bulk_one (D k)
    rw [List.range_succ, List.map_append, bulk_app]
    simp only [List.map_cons, List.map_nil, Rows.uptoBulkAll]
    omega

theorem lt_of_cell {a : Addr} {v : Value} (h : w.cell? a = some v) : a.block < w.heap.size := World.block_lt_of_cell? w a h

/-- a slice of bytes -/
theorem open_bytes {t e : TypeId} {fuel : Nat} {cs : List Value} {x : DataW H × List MemPlace} (ht : P.underlying t = some (.slice e)) (he : P.underlying e = some (.int .u8)) (hc : P.cellsOf e = 1)
    (h : DataW.trod enc P w base spare held fuel t cs = some x) :
    ∃ (A : Option Addr) (n c : Nat) (bs : List UInt8), cs = [.slice A n c] ∧ n ≤ c ∧ bs.length = n ∧ Rd w w.heap.size 1 A n (bvs bs) ∧ n + 1 ≤ Rows.uptoBulk x.1 := by
  rcases open_slice1 ht hc h with ⟨rfl, rfl⟩ | ⟨a, len, cap, m, n, V, D, Pl, rfl, hb, hl, hm, hmm, rfl, hi⟩
  · exact ⟨none, 0, 0, [], rfl, Nat.le_refl _, rfl, Rd.nil, by simp [Rows.uptoBulk]⟩
  · have hlm : len ≤ m := by rw [hmm]; split <;> omega
    have hv : ∀ i, i < len → ∃ b : UInt8, V i = .int .u8 (b.toNat : Int) := by
      intro i hil
      obtain ⟨z, hz, _, hw⟩ := DataW.trod_int he (hi i (by omega)).2
      have hz' : V i = .int .u8 z := by simpa using hz
      have hx : 0 ≤ z ∧ z ≤ 255 := by simpa [Lit.wf, IntKind.min, IntKind.max, IntKind.signed, IntKind.bits] using hw
      refine ⟨UInt8.ofNat z.toNat, ?_⟩
      rw [hz', UInt8.toNat_ofNat']
      congr 1
      omega
    obtain ⟨b, hbv⟩ := choose_lt (α := UInt8) hv
    refine ⟨some a, len, cap, (List.range len).map b, rfl, hl, by simp, ⟨by simp [bvs], fun h0 => ⟨a, rfl, ?_, fun j u hu => ?_⟩⟩, ?_⟩
    · have := lt_of_cell (hi 0 (by omega)).1
      simpa [add_block] using this
    · have hj : j < len := by
        have := (List.getElem?_eq_some_iff.1 hu).1
        simpa [bvs] using this
      rw [(hi j (by omega)).1, hbv j hj]
      simp [bvs, bv, hj] at hu
      rw [hu]
    · have := bulk_len D len
      simp only [Rows.uptoBulk]; omega

/-- a slice of slices of bytes; 'c1' for each element, 'c2' for each byte -/
theorem open_bytess {t e f : TypeId} {fuel : Nat} {cs : List Value} {x : DataW H × List MemPlace} (ht : P.underlying t = some (.slice e)) (he : P.underlying e = some (.slice f)) (hf : P.underlying f = some (.int .u8)) (hc : P.cellsOf e = 1) (hcf : P.cellsOf f = 1)
    (h : DataW.trod enc P w base spare held fuel t cs = some x) :
    ∃ (A : Option Addr) (n c : Nat) (vs : List Value) (l : List (List UInt8)), cs = [.slice A n c] ∧ n ≤ c ∧ Rd w w.heap.size 1 A n vs ∧ RdAll w w.heap.size vs l ∧ n + 1 ≤ Rows.uptoBulk x.1 ∧ (l.map fun b => b.length + 2).sum ≤ 2 * Rows.uptoBulk x.1 := by
  rcases open_slice1 ht hc h with ⟨rfl, rfl⟩ | ⟨a, len, cap, m, n, V, D, Pl, rfl, hb, hl, hm, hmm, rfl, hi⟩
  · exact ⟨none, 0, 0, [], [], rfl, Nat.le_refl _, Rd.nil, ⟨rfl, fun k hk => by simp at hk⟩, by simp [Rows.uptoBulk], by simp⟩
  · have hlm : len ≤ m := by rw [hmm]; split <;> omega
    have hv : ∀ i, i < len → ∃ bs : List UInt8, (∃ A c, V i = .slice A bs.length c ∧ bs.length ≤ c ∧ Rd w w.heap.size 1 A bs.length (bvs bs)) ∧ bs.length + 1 ≤ Rows.uptoBulk (D i) := by
      intro i hil
      obtain ⟨A, n', c, bs, e1, h1, h2, h3, h4⟩ := open_bytes he hf hcf (hi i (by omega)).2
      subst h2
      exact ⟨bs, ⟨A, c, by simpa using e1, h1, h3⟩, h4⟩
    obtain ⟨b, hbv⟩ := choose_lt (α := List UInt8) hv
    refine ⟨some a, len, cap, (List.range len).map V, (List.range len).map b, rfl, hl, ⟨by simp, fun h0 => ⟨a, rfl, ?_, fun j u hu => ?_⟩⟩, ⟨by simp, fun k hk => ?_⟩, ?_, ?_⟩
    · have := lt_of_cell (hi 0 (by omega)).1
      simpa [add_block] using this
    · have hj : j < len := by
        have := (List.getElem?_eq_some_iff.1 hu).1
        simpa using this
      rw [(hi j (by omega)).1]
      simp [hj] at hu
      rw [hu]
    · have hk' : k < len := by simpa using hk
      obtain ⟨⟨A, c, e1, h1, h2⟩, _⟩ := hbv k hk'
      refine ⟨A, c, ?_, ?_, ?_⟩
      · simp [hk', e1]
      · simpa using h1
      · simpa using h2
    · have := bulk_len D len
      simp only [Rows.uptoBulk]; omega
    · have := bulk_sum D (fun i => (b i).length + 2) 2 len fun i hi => by have := (hbv i hi).2; omega
      simp only [Rows.uptoBulk, List.map_map, Function.comp_def]
      omega
end

end Go.Proofs.Ythgackidonocpaa
