/-
  Rows of values: plain facts.
-/
import Derived.Test.YthgackidonocpaaTv
namespace Go.Proofs.Ythgackidonocpaa
open Go.RowKit

theorem V.all_app (l r : List V) : V.all (l ++ r) = V.all l ++ V.all r := by simp [V.all_eq]
theorem V.all_one (v : V) : V.all [v] = v.ts := by simp [V.all]
theorem V.all_snoc {l : List V} {k : Nat} {a : V} (h : l[k]? = some a) : V.all (l.take (k + 1)) = V.all (l.take k) ++ a.ts := by
  obtain ⟨h1, rfl⟩ := List.getElem?_eq_some_iff.1 h
  rw [List.take_succ_eq_append_getElem h1, V.all_app, V.all_one]

end Go.Proofs.Ythgackidonocpaa
