/-
  What is used of other modules (api.Use), and modules (solve.Module), as trees; the plain checks of both.
-/
import Derived.Test.YtdajeoifmfbgkaaDat
import Derived.Test.YtdajeoifmfbgkaaNamePlain
namespace Go.Proofs.Ytdajeoifmfbgkaa
open Go.RowKit

structure UseD where
  name : List UInt8
  low : Int
  high : Int
def UseD.dats (u : UseD) : List Dat := [.one (.string ⟨u.name.toArray⟩), .one (.int .i64 u.low), .one (.int .i64 u.high)]
theorem UseD.dats_len (u : UseD) : u.dats.length = 3 := rfl

theorem uses_at {w : World} {S T : Nat → Prop} {A : Option Addr} {m : Nat} {xs : List Value} {l : List UseD} {k : Nat} (hr : Rs w S 3 A m xs) (hv : RV w T (l.flatMap UseD.dats) xs) (hk : k < m) :
    ∃ (ad : Addr) (u : UseD), A = some ad ∧ l[k]? = some u ∧ w.cell? (ad.add (k * 3)) = some (.string ⟨u.name.toArray⟩) ∧ w.cell? { block := (ad.add (k * 3)).block, off := (ad.add (k * 3)).off + 1 } = some (.int .i64 u.low) ∧
      w.cell? { block := (ad.add (k * 3)).block, off := (ad.add (k * 3)).off + 2 } = some (.int .i64 u.high) := by
  obtain ⟨ad, u, cs, rfl, h1, _, h2, h3⟩ := row_at UseD.dats 3 UseD.dats_len (by omega) hr hv hk
  simp only [UseD.dats, RV, RD] at h2
  obtain ⟨_, _, rfl, ⟨rfl, _⟩, _, _, rfl, ⟨rfl, _⟩, _, _, rfl, ⟨rfl, _⟩, rfl⟩ := h2
  exact ⟨ad, u, rfl, h1, h3 0 _ rfl, cell_next (h3 1 _ rfl), cell_next (h3 2 _ rfl)⟩

structure ModD where
  name : List UInt8
  version : Int
  uses : List UseD
def ModD.dats (m : ModD) : List Dat := [.one (.string ⟨m.name.toArray⟩), .one (.int .i64 m.version), .row 3 (m.uses.flatMap UseD.dats)]
theorem ModD.dats_len (u : ModD) : u.dats.length = 3 := rfl

theorem mods_at {w : World} {S T : Nat → Prop} {A : Option Addr} {m : Nat} {xs : List Value} {l : List ModD} {k : Nat} (hr : Rs w S 3 A m xs) (hv : RV w T (l.flatMap ModD.dats) xs) (hk : k < m) :
    ∃ (ad : Addr) (u : ModD) (A' : Option Addr) (n' c' : Nat) (ys : List Value), A = some ad ∧ l[k]? = some u ∧ w.cell? (ad.add (k * 3)) = some (.string ⟨u.name.toArray⟩) ∧ w.cell? { block := (ad.add (k * 3)).block, off := (ad.add (k * 3)).off + 1 } = some (.int .i64 u.version) ∧
      w.cell? { block := (ad.add (k * 3)).block, off := (ad.add (k * 3)).off + 2 } = some (.slice A' n' c') ∧ n' ≤ c' ∧ n' = u.uses.length ∧ Rs w T 3 A' n' ys ∧ RV w T (u.uses.flatMap UseD.dats) ys := by
  obtain ⟨ad, u, cs, rfl, h1, _, h2, h3⟩ := row_at ModD.dats 3 ModD.dats_len (by omega) hr hv hk
  simp only [ModD.dats, RV, RD] at h2
  obtain ⟨_, _, rfl, ⟨rfl, _⟩, _, _, rfl, ⟨rfl, _⟩, _, _, rfl, ⟨A', n', c', ys, rfl, hc, _, h4, h5⟩, rfl⟩ := h2
  exact ⟨ad, u, A', n', c', ys, rfl, h1, h3 0 _ rfl, cell_next (h3 1 _ rfl), cell_next (h3 2 _ rfl), hc, (row_len UseD.dats 3 UseD.dats_len (by omega) h4 h5).symm, h4, h5⟩

/-- the first error of a list -/
def firstE : List Int → Int
  | [] => 0
  | e :: r => if e = 0 then firstE r else e
noncomputable def useE (u : UseD) : Int := if nameOk u.name then (if u.low < 1 ∨ 9999 < u.high ∨ u.high < u.low then 1 else 0) else 11
noncomputable def wantsE (l : List UseD) : Int := if 5 < l.length then 2 else firstE (l.map useE)
theorem firstE_skip {α : Type} {f : α → Int} {l : List α} {k : Nat} {a : α} (h : l[k]? = some a) (h0 : f a = 0) : firstE ((l.drop k).map f) = firstE ((l.drop (k + 1)).map f) := by
  obtain ⟨hk, he⟩ := List.getElem?_eq_some_iff.1 h
  rw [List.drop_eq_getElem_cons hk, he]
  simp [firstE, h0]
theorem firstE_hit {α : Type} {f : α → Int} {l : List α} {k : Nat} {a : α} (h : l[k]? = some a) (h0 : f a ≠ 0) : firstE ((l.drop k).map f) = f a := by
  obtain ⟨hk, he⟩ := List.getElem?_eq_some_iff.1 h
  rw [List.drop_eq_getElem_cons hk, he]
  simp [firstE, h0]
theorem firstE_end {α : Type} {f : α → Int} {l : List α} {k : Nat} (h : l.length ≤ k) : firstE ((l.drop k).map f) = 0 := by
  rw [List.drop_eq_nil_of_le h]
  rfl

end Go.Proofs.Ytdajeoifmfbgkaa
