/-
  The plain law behind RenewBack: writes one after the other, and for each place the last that was written there.
-/
import Derived.Test.YtdajeoifmfbgkaaTfind
import Derived.Test.YtdajeoifmfbgkaaAb14
namespace Go.Proofs.Ytdajeoifmfbgkaa
open Go.RowKit

def zeroV : V := .mk 0 0 ⟨#[]⟩ []
def wrV (cur : List V) (p : Int × V) : List V := if 0 ≤ p.1 then cur.set p.1.toNat p.2 else cur
def ovV (i : Nat) (a : V) (p : Int × V) : V := if p.1 = (i : Int) then p.2 else a
theorem wrV_len (cur : List V) (p : Int × V) : (wrV cur p).length = cur.length := by unfold wrV; split <;> simp
theorem wrVs_len : ∀ (ps : List (Int × V)) (cur : List V), (ps.foldl wrV cur).length = cur.length
  | [], _ => rfl
  | p :: ps, cur => by rw [List.foldl_cons, wrVs_len ps, wrV_len]
theorem wrV_at (cur : List V) (p : Int × V) (i : Nat) : (wrV cur p)[i]? = cur[i]?.map fun a => ovV i a p := by
  unfold wrV ovV
  split
  · rename_i h
    rw [List.getElem?_set]
    by_cases hp : p.1 = (i : Int)
    · have : p.1.toNat = i := by omega
      rw [if_pos this, this]
      by_cases hi : i < cur.length
      · simp [hi, hp]
      · simp [hi]
    · have : p.1.toNat ≠ i := by omega
      rw [if_neg this]
      simp [hp]
  · rename_i h
    have : ¬ p.1 = (i : Int) := by omega
    simp [this]
theorem wrVs_at : ∀ (ps : List (Int × V)) (cur : List V) (i : Nat), (ps.foldl wrV cur)[i]? = cur[i]?.map fun a => ps.foldl (ovV i) a
  | [], cur, i => by simp
  | p :: ps, cur, i => by
    rw [List.foldl_cons, wrVs_at ps, wrV_at]
    cases cur[i]? <;> rfl
theorem wrVs_eq (ps : List (Int × V)) (n : Nat) : ps.foldl wrV (List.replicate n zeroV) = (List.range n).map fun i => ps.foldl (ovV i) zeroV := by
  apply List.ext_getElem?
  intro i
  rw [wrVs_at, List.getElem?_map]
  by_cases hi : i < n <;> simp [hi]
def wr1 (st : List V) (m : Mov) : List (Int × V) := (m.fields.map Fld.frm).zip st
def wr2 (vs : List V) (m : Mov) : List (Int × V) := m.lost.zip vs
def backR (act : ByteArray) (st : List V) (inp : List Inp) (l : List Mov) (vs : List V) : Sav × Int :=
  let r := renewR act st.length inp.length false l
  if r.2 = 0 then (if vs.length = r.1.lost.length then (⟨act, (List.range r.1.count.toNat).map fun i => (wr1 st r.1 ++ wr2 vs r.1).foldl (ovV i) zeroV, []⟩, 0) else (zeroSav, 1)) else (zeroSav, r.2)
theorem zero_all (n : Nat) : (List.replicate n [T.lit (.int .i64 0), .lit (.int .i64 0), .lit (.string ⟨#[]⟩), .row 0 4 []]).flatten = V.all (List.replicate n zeroV) := by
  induction n with
  | zero => rfl
  | succ n ih => rw [List.replicate_succ, List.flatten_cons, ih, List.replicate_succ, V.all]; rfl
theorem spl_all : ∀ (cur : List V) (j : Nat) (v : V), j < cur.length → spl (V.all cur) (j * 4) v.ts = V.all (cur.set j v) := by
  intro cur j v h
  rw [spl_eq _ _ _ (by rw [V.all_eq, flat_len V.ts 4 V.ts_len, V.ts_len]; omega), V.ts_len]
  rw [List.set_eq_take_append_cons_drop, if_pos h, V.all_app, V.all]
  have h1 : ∀ k ≤ cur.length, (V.all cur).take (k * 4) = V.all (cur.take k) ∧ (V.all cur).drop (k * 4) = V.all (cur.drop k) := by
    intro k hk
    have : V.all cur = V.all (cur.take k) ++ V.all (cur.drop k) := by rw [← V.all_app, List.take_append_drop]
    have hl : (V.all (cur.take k)).length = k * 4 := by rw [V.all_eq, flat_len V.ts 4 V.ts_len]; simp; omega
    rw [this]
    exact ⟨List.take_left' hl, List.drop_left' hl⟩
  rw [(h1 j (by omega)).1, show j * 4 + 4 = (j + 1) * 4 by omega, (h1 (j + 1) (by omega)).2, List.append_assoc]
theorem zip_take_succ {α β : Type} {l : List α} {r : List β} {k : Nat} {a : α} {b : β} (h : l[k]? = some a) (h' : r[k]? = some b) : (l.zip r).take (k + 1) = (l.zip r).take k ++ [(a, b)] := by
  have : (l.zip r)[k]? = some (a, b) := by rw [List.getElem?_zip_eq_some]; exact ⟨h, h'⟩
  obtain ⟨h1, h2⟩ := List.getElem?_eq_some_iff.1 this
  rw [List.take_succ_eq_append_getElem h1, h2]

end Go.Proofs.Ytdajeoifmfbgkaa
