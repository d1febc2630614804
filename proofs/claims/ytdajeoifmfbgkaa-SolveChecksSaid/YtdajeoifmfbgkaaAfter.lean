/-
  A region that draws its order, whose operations only read and whose calls make memory of their own: one walk, in the order of the text, serves every order. The class of worlds: what was there at the region's start is as it was.
-/
import Derived.Test.YtdajeoifmfbgkaaMem
import Derived.Deep.QuietTactic
import Derived.BigQuiet
namespace Go.Proofs.Ytdajeoifmfbgkaa
open Go.RowKit

/-- a world in which all that was there in W is as it was -/
def After (W : World) : Type := { w' : World // Below W.heap.size W w' }
instance (W : World) : Nonempty (After W) := ⟨⟨W, Below.refl _ _⟩⟩
def After.w {W : World} (x : After W) : World := x.1
theorem After.b {W : World} (x : After W) : Below W.heap.size W x.w := x.2
theorem After.cell {W : World} {p : Addr} {v : Value} (h : W.cell? p = some v) (x : After W) : x.w.cell? p = some v := (x.b.cell (World.block_lt_of_cell? W p h)).trans h

theorem wp_region_after {P : Program} {id : Nat} {Q : Exit → Act → World → Prop} {a : Act} {w : World} {l : List Oper} (hm : P.follows .mixedOrders = true) (hB : Region.lexB .any l.toArray = true)
    (h : wpQuiet P l.toArray (fun w' => ∃ x : After w, w' = x.w) (fun a' => ∀ w', (∃ x : After w, w' = x.w) → Q .normal a' w') l a) : (Code.region id l.toArray true).wp P Q a w :=
  wp_region_quiet (C := fun w' => ∃ x : After w, w' = x.w) hm hB ⟨⟨w.drew, (Below.refl _ _).drew⟩, rfl⟩ (by simpa using h)

/-- a callee that leaves what was there alone -/
theorem calls_after {P : Program} {f : FuncId} {args : Array Value} {W : World} {x : After W} {v : Value} (h : Calls P f args x.w fun e w' => e = .returned v ∧ Below x.w.heap.size x.w w') :
    Calls P f args x.w fun e w'' => e = .returned v ∧ ∃ y : After W, w'' = y.w :=
  h.mono fun _ w' ⟨he, hb⟩ => ⟨he, ⟨w', x.b.trans (hb.mono x.b.size)⟩, rfl⟩
theorem calls_after_same {P : Program} {f : FuncId} {args : Array Value} {W : World} {x : After W} {v : Value} (h : Calls P f args x.w fun e w' => e = .returned v ∧ x.w = w') :
    Calls P f args x.w fun e w'' => e = .returned v ∧ ∃ y : After W, w'' = y.w :=
  h.mono fun _ _ ⟨he, hb⟩ => ⟨he, x, hb.symm⟩

end Go.Proofs.Ytdajeoifmfbgkaa
