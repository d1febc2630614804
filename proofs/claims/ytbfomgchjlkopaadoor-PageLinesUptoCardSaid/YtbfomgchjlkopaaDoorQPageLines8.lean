/-
  Texts of this proof, part 8: Tmz Lbf Pea Tsh2 Ttt Peb Pec.
-/
import Derived.Test.YtbfomgchjlkopaaDoorQPageLines7
import Derived.Laws.IdiomRangeMap
import Derived.MapKept
import Derived.WideLaws
namespace Go.Proofs.YtbfomgchjlkopaaDoor
open Go.RowKit
def inI (n : Int) : Prop := -9223372036854775808 ≤ n ∧ n ≤ 9223372036854775807
instance (n : Int) : Decidable (inI n) := by unfold inI; infer_instance
/-- a number, heavy where it is out of range -/
def far (n : Int) : Nat := if inI n then 1 else 1099511627776
theorem far_in {n : Int} (h : far n ≤ 1048576) : inI n := by
  unfold far at h
  split at h
  · assumption
  · omega
mutual
def Y.mass : Y → Nat
  | .mk k n l => far k + (n.size + 1) + (Y.masses l + 1)
def Y.masses : List Y → Nat
  | [] => 0
  | v :: r => v.mass + Y.masses r
end
mutual
def Y.ok : Y → Prop
  | .mk k _ l => inI k ∧ Y.oks l
def Y.oks : List Y → Prop
  | [] => True
  | v :: r => v.ok ∧ Y.oks r
end
theorem Y.masses_sum : ∀ l : List Y, Y.masses l = (l.map Y.mass).sum
  | [] => rfl
  | v :: l => by simp [Y.masses, Y.masses_sum l]
theorem Y.oks_iff : ∀ l : List Y, Y.oks l ↔ ∀ v ∈ l, v.ok
  | [] => by simp [Y.oks]
  | v :: l => by simp [Y.oks, Y.oks_iff l]
theorem Y.mass_ok (v : Y) : v.mass ≤ 1048576 → v.ok := by
  induction v using Y.ind with
  | h k n l ih =>
    intro h
    simp only [Y.mass, Y.masses_sum] at h
    simp only [Y.ok, Y.oks_iff]
    exact ⟨far_in (by omega), fun x hx => ih x hx (by have := sum_mem' Y.mass hx; omega)⟩
theorem V.size_pos : ∀ v : V, 1 ≤ v.size
  | .mk _ _ _ _ => by simp only [V.size]; omega
mutual
def V.mass : V → Nat
  | .mk k n t l => far k + far n + (t.size + 1) + (V.masses l + 1)
def V.masses : List V → Nat
  | [] => 0
  | v :: r => v.mass + V.masses r
end
mutual
def V.ok : V → Prop
  | .mk k n _ l => inI k ∧ inI n ∧ V.oks l
def V.oks : List V → Prop
  | [] => True
  | v :: r => v.ok ∧ V.oks r
end
theorem V.masses_sum : ∀ l : List V, V.masses l = (l.map V.mass).sum
  | [] => rfl
  | v :: l => by simp [V.masses, V.masses_sum l]
theorem V.oks_iff : ∀ l : List V, V.oks l ↔ ∀ v ∈ l, v.ok
  | [] => by simp [V.oks]
  | v :: l => by simp [V.oks, V.oks_iff l]
theorem V.mass_ok (v : V) : v.mass ≤ 1048576 → v.ok := by
  induction v using V.ind with
  | h k n t l ih =>
    intro h
    simp only [V.mass, V.masses_sum] at h
    simp only [V.ok, V.oks_iff]
    exact ⟨far_in (by omega), far_in (by omega), fun x hx => ih x hx (by have := sum_mem' V.mass hx; omega)⟩
mutual
def Ex.mass : Ex → Nat
  | .mk k n t ns ys l rs a => far k + far n + (t.size + 1) + (strSize ns + 1) + (Y.masses ys + 1) + (Ex.masses l + 1) + (Ar.masses rs + 1) + far a
def Ex.masses : List Ex → Nat
  | [] => 0
  | v :: r => v.mass + Ex.masses r
def Ar.mass : Ar → Nat
  | .mk p b => p.mass + b.mass
def Ar.masses : List Ar → Nat
  | [] => 0
  | v :: r => v.mass + Ar.masses r
end
mutual
def Ex.ok : Ex → Prop
  | .mk k n _ _ ys l rs a => inI k ∧ inI n ∧ Y.oks ys ∧ Ex.oks l ∧ Ar.oks rs ∧ inI a
def Ex.oks : List Ex → Prop
  | [] => True
  | v :: r => v.ok ∧ Ex.oks r
def Ar.ok : Ar → Prop
  | .mk p b => p.ok ∧ b.ok
def Ar.oks : List Ar → Prop
  | [] => True
  | v :: r => v.ok ∧ Ar.oks r
end
theorem Ex.masses_sum : ∀ l : List Ex, Ex.masses l = (l.map Ex.mass).sum
  | [] => rfl
  | v :: l => by simp [Ex.masses, Ex.masses_sum l]
theorem Ar.masses_sum : ∀ l : List Ar, Ar.masses l = (l.map Ar.mass).sum
  | [] => rfl
  | v :: l => by simp [Ar.masses, Ar.masses_sum l]
theorem Ex.oks_iff : ∀ l : List Ex, Ex.oks l ↔ ∀ v ∈ l, v.ok
  | [] => by simp [Ex.oks]
  | v :: l => by simp [Ex.oks, Ex.oks_iff l]
theorem Ar.oks_iff : ∀ l : List Ar, Ar.oks l ↔ ∀ v ∈ l, v.ok
  | [] => by simp [Ar.oks]
  | v :: l => by simp [Ar.oks, Ar.oks_iff l]
theorem Ex.ind {P : Ex → Prop} (h : ∀ k n t ns ys l rs a, (∀ v ∈ l, P v) → (∀ r ∈ rs, ∀ p b, r = Ar.mk p b → P b) → P (.mk k n t ns ys l rs a)) : ∀ v, P v := by
  have : ∀ (N : Nat) (v : Ex), v.size ≤ N → P v := by
    intro N
    induction N with
    | zero => intro v hv; have := v.size_pos; omega
    | succ N ih =>
      intro v hv
      cases v with
      | mk k n t ns ys l rs a =>
        simp only [Ex.size] at hv
        refine h k n t ns ys l rs a (fun x hx => ih x ?_) (fun r hr p b e => ih b ?_)
        · have := Ex.size_mem hx
          omega
        · have := Ar.size_mem hr
          subst e
          have hp := p.size_pos
          simp only [Ar.size] at this
          omega
  exact fun v => this v.size v (Nat.le_refl _)
theorem Ex.mass_ok (v : Ex) : v.mass ≤ 1048576 → v.ok := by
  induction v using Ex.ind with
  | h k n t ns ys l rs a ih1 ih2 =>
    intro h
    simp only [Ex.mass, Y.masses_sum, Ex.masses_sum, Ar.masses_sum] at h
    simp only [Ex.ok, Ex.oks_iff, Ar.oks_iff, Y.oks_iff]
    refine ⟨far_in (by omega), far_in (by omega), fun x hx => Y.mass_ok x (by have := sum_mem' Y.mass hx; omega), fun x hx => ih1 x hx (by have := sum_mem' Ex.mass hx; omega), fun x hx => ?_, far_in (by omega)⟩
    have h2 := sum_mem' Ar.mass hx
    obtain ⟨p, b⟩ := x
    simp only [Ar.mass] at h2
    exact ⟨p.mass_ok (by omega), ih2 _ hx p b rfl (by omega)⟩
def Us.mass (x : Us) : Nat := (x.name.size + 1) + far x.low + far x.high
def Us.ok (x : Us) : Prop := inI x.low ∧ inI x.high
theorem Us.mass_ok (x : Us) (h : x.mass ≤ 1048576) : x.ok := by
  unfold Us.mass at h
  exact ⟨far_in (by omega), far_in (by omega)⟩
def Mk.mass (x : Mk) : Nat := (x.name.size + 1) + ((x.args.map Y.mass).sum + 1)
def Mk.ok (x : Mk) : Prop := (∀ a ∈ x.args, a.ok)
theorem Mk.mass_ok (x : Mk) (h : x.mass ≤ 1048576) : x.ok := by
  unfold Mk.mass at h
  exact fun a ha => a.mass_ok (by have := sum_mem' Y.mass ha; omega)
def Da.mass (x : Da) : Nat := (x.name.size + 1) + (strSize x.params + 1) + ((x.makes.map Mk.mass).sum + 1)
def Da.ok (x : Da) : Prop := (∀ a ∈ x.makes, a.ok)
theorem Da.mass_ok (x : Da) (h : x.mass ≤ 1048576) : x.ok := by
  unfold Da.mass at h
  exact fun a ha => a.mass_ok (by have := sum_mem' Mk.mass ha; omega)
def Fu.mass (x : Fu) : Nat := (x.name.size + 1) + (strSize x.params + 1) + (strSize x.names + 1) + ((x.types.map Y.mass).sum + 1) + x.out.mass + x.body.mass
def Fu.ok (x : Fu) : Prop := (∀ a ∈ x.types, a.ok) ∧ x.out.ok ∧ x.body.ok
theorem Fu.mass_ok (x : Fu) (h : x.mass ≤ 1048576) : x.ok := by
  unfold Fu.mass at h
  exact ⟨fun a ha => a.mass_ok (by have := sum_mem' Y.mass ha; omega), x.out.mass_ok (by omega), x.body.mass_ok (by omega)⟩
def Tr.mass (x : Tr) : Nat := (x.name.size + 1) + ((x.funcs.map Fu.mass).sum + 1)
def Tr.ok (x : Tr) : Prop := (∀ a ∈ x.funcs, a.ok)
theorem Tr.mass_ok (x : Tr) (h : x.mass ≤ 1048576) : x.ok := by
  unfold Tr.mass at h
  exact fun a ha => a.mass_ok (by have := sum_mem' Fu.mass ha; omega)
def Im.mass (x : Im) : Nat := (x.trait.size + 1) + (x.dat.size + 1) + ((x.funcs.map Fu.mass).sum + 1)
def Im.ok (x : Im) : Prop := (∀ a ∈ x.funcs, a.ok)
theorem Im.mass_ok (x : Im) (h : x.mass ≤ 1048576) : x.ok := by
  unfold Im.mass at h
  exact fun a ha => a.mass_ok (by have := sum_mem' Fu.mass ha; omega)
def Ac.mass (x : Ac) : Nat := (x.name.size + 1) + (strSize x.names + 1) + ((x.types.map Y.mass).sum + 1) + x.msg.mass + x.body.mass
def Ac.ok (x : Ac) : Prop := (∀ a ∈ x.types, a.ok) ∧ x.msg.ok ∧ x.body.ok
theorem Ac.mass_ok (x : Ac) (h : x.mass ≤ 1048576) : x.ok := by
  unfold Ac.mass at h
  exact ⟨fun a ha => a.mass_ok (by have := sum_mem' Y.mass ha; omega), x.msg.mass_ok (by omega), x.body.mass_ok (by omega)⟩
def Pr.mass (x : Pr) : Nat := (x.name.size + 1) + far x.version + ((x.uses.map Us.mass).sum + 1) + ((x.datas.map Da.mass).sum + 1) + ((x.traits.map Tr.mass).sum + 1) + ((x.impls.map Im.mass).sum + 1) + ((x.funcs.map Fu.mass).sum + 1) + ((x.actors.map Ac.mass).sum + 1)
def Pr.ok (x : Pr) : Prop := inI x.version ∧ (∀ a ∈ x.uses, a.ok) ∧ (∀ a ∈ x.datas, a.ok) ∧ (∀ a ∈ x.traits, a.ok) ∧ (∀ a ∈ x.impls, a.ok) ∧ (∀ a ∈ x.funcs, a.ok) ∧ (∀ a ∈ x.actors, a.ok)
theorem Pr.mass_ok (x : Pr) (h : x.mass ≤ 1048576) : x.ok := by
  unfold Pr.mass at h
  exact ⟨far_in (by omega), fun a ha => a.mass_ok (by have := sum_mem' Us.mass ha; omega), fun a ha => a.mass_ok (by have := sum_mem' Da.mass ha; omega), fun a ha => a.mass_ok (by have := sum_mem' Tr.mass ha; omega), fun a ha => a.mass_ok (by have := sum_mem' Im.mass ha; omega), fun a ha => a.mass_ok (by have := sum_mem' Fu.mass ha; omega), fun a ha => a.mass_ok (by have := sum_mem' Ac.mass ha; omega)⟩
end Go.Proofs.YtbfomgchjlkopaaDoor
namespace Go.Proofs.YtbfomgchjlkopaaDoor
open Go.RowKit
theorem gPow : Tryd.prog.globalNamed "internal/strconv.uint64pow10" = some 0 := by kernel_rfl
theorem itoa_af (n : Int) (h : inI n) : AF Tryd.prog 15 [.lit (.int .i64 n)] (· = .lit (.string (bs (Lib.itoa n)))) := by
  refine ⟨⟨_, Tryd.func15, by kernel_rfl, by kernel_rfl⟩, fun M w vs hG hM hvs => ?_⟩
  simp only [RTs, RT] at hvs
  obtain ⟨x, r, rfl, rfl, rfl⟩ := hvs
  obtain ⟨cs, t, fr, rfl, e⟩ := hG (0, (· = (Lib.pow10Tab.map fun z => Value.int .u64 z).toArray)) (by simp [globTab])
  have htab : Lib.TabIs Tryd.prog w "internal/strconv.uint64pow10" .u64 Lib.pow10Tab := by
    unfold Lib.TabIs World.var?
    rw [gPow]
    simp only [Option.bind_some]
    rw [e]
  refine (lib_strconv_Itoa n h.1 h.2 w htab).mono fun e w' ⟨he, k, os, hw⟩ => ?_
  subst he
  have hb : Below w.heap.size w w' := by
    subst hw
    refine ⟨rfl, rfl, rfl, ?_, fun b hb => ?_⟩
    · show w.heap.size ≤ (w.heap ++ os).size
      simp
    · show (w.heap ++ os)[b]? = w.heap[b]?
      rw [Array.getElem?_append_left hb]
  exact ⟨_, _, M, rfl, rfl, Ext.refl _ _, hM.below hb, by simp only [RT]; rfl, hb⟩
end Go.Proofs.YtbfomgchjlkopaaDoor
namespace Go.Proofs.YtbfomgchjlkopaaDoor
open Go.RowKit
theorem ba_assoc (a b c : ByteArray) : a ++ b ++ c = a ++ (b ++ c) := ByteArray.append_assoc
theorem join_snocP {sep : List UInt8} {l : List (List UInt8)} {x : List UInt8} (h : l ≠ []) : Lib.join (l ++ [x]) sep = Lib.join l sep ++ (sep ++ x) := by
  cases l with
  | nil => exact absurd rfl h
  | cons y l =>
    rw [List.cons_append, Lib.join_cons, Lib.join_cons]
    simp [Lib.joinTail]
theorem joinS_nil (sep : ByteArray) : joinS [] sep = ⟨#[]⟩ := by simp [joinS, Lib.join_nil]
theorem joinS_one (x sep : ByteArray) : joinS [x] sep = x := by
  cases x
  simp [joinS, Lib.join_one]
theorem joinS_snoc {sep x : ByteArray} {l : List ByteArray} (h : l ≠ []) : joinS (l ++ [x]) sep = joinS l sep ++ (sep ++ x) := by
  unfold joinS
  rw [List.map_append, List.map_singleton, join_snocP (by simpa using h)]
  apply ByteArray.ext
  simp [ByteArray.data_append]
/-- a join's size, where the text between takes three bytes at most -/
theorem joinS_size3 (sep : ByteArray) (hs : sep.size ≤ 3) (xs : List ByteArray) : (joinS xs sep).size ≤ lensS xs + xs.length := by
  cases xs with
  | nil => rw [joinS_nil]; exact Nat.zero_le _
  | cons s xs =>
    have h1 := lens_eq (s :: xs)
    have h2 : (joinS (s :: xs) sep).size = (Lib.join ((s :: xs).map (·.data.toList)) sep.data.toList).length := by simp [joinS, ByteArray.size]
    have h3 : sep.data.toList.length ≤ 3 := by rw [Array.length_toList]; exact hs
    have h4 : sep.data.toList.length * xs.length ≤ 3 * xs.length := Nat.mul_le_mul_right _ h3
    rw [h2]
    rw [List.map_cons] at h1 ⊢
    rw [Lib.join_length, ← h1]
    simp only [List.length_map, List.length_cons]
    omega
theorem lensS_cons (x : ByteArray) (l : List ByteArray) : lensS (x :: l) = x.size + 2 + lensS l := rfl
def parS (l : List ByteArray) : ByteArray := if l.length = 0 then ⟨#[]⟩ else ⟨#[91]⟩ ++ joinS l ⟨#[44, 32]⟩ ++ ⟨#[93]⟩
def tyAt (types : List Y) (i : Nat) : ByteArray := ((types[i]?).map Y.text).getD ⟨#[63]⟩
def fldT (types : List Y) (i : Nat) (s : ByteArray) : ByteArray := s ++ ⟨#[58, 32]⟩ ++ tyAt types i
def fldsL (names : List ByteArray) (types : List Y) : List ByteArray := names.mapIdx (fldT types)
def fldsS (names : List ByteArray) (types : List Y) : ByteArray := ⟨#[40]⟩ ++ joinS (fldsL names types) ⟨#[44, 32]⟩ ++ ⟨#[41]⟩
def descS (m : Mk) : ByteArray := if m.args.length = 0 then m.name else m.name ++ ⟨#[40]⟩ ++ joinS (m.args.map Y.text) ⟨#[44, 32]⟩ ++ ⟨#[41]⟩
def funS (f : Fu) : ByteArray := ⟨#[102, 117, 110, 32]⟩ ++ f.name ++ parS f.params ++ fldsS f.names f.types ++ ⟨#[58, 32]⟩ ++ f.out.text
def mkE (d : Da) (m : Mk) : En := ⟨m.name, 2, d.name, descS m ++ ⟨#[32, 111, 102, 32]⟩ ++ d.name ++ parS d.params⟩
def daL (d : Da) : ByteArray := ⟨#[100, 97, 116, 97, 32]⟩ ++ d.name ++ parS d.params ++ ⟨#[32, 61, 32]⟩ ++ joinS (d.makes.map descS) ⟨#[32, 124, 32]⟩
def daE (d : Da) : List En := d.makes.map (mkE d) ++ [⟨d.name, 1, ⟨#[]⟩, daL d⟩]
def tfE (t : Tr) (f : Fu) : En := ⟨f.name, 4, t.name, funS f ++ ⟨#[32, 111, 102, 32]⟩ ++ t.name⟩
def trL (t : Tr) : ByteArray := ⟨#[116, 114, 97, 105, 116, 32]⟩ ++ t.name ++ ⟨#[32, 61, 32]⟩ ++ joinS (t.funcs.map Fu.name) ⟨#[44, 32]⟩
def trE (t : Tr) : List En := t.funcs.map (tfE t) ++ [⟨t.name, 3, ⟨#[]⟩, trL t⟩]
def fuE (f : Fu) : En := ⟨f.name, 4, ⟨#[]⟩, funS f⟩
def acL (a : Ac) : ByteArray := ⟨#[97, 99, 116, 111, 114, 32]⟩ ++ a.name ++ fldsS a.names a.types ++ ⟨#[58, 32]⟩ ++ a.msg.text
def acE (a : Ac) : En := ⟨a.name, 5, ⟨#[]⟩, acL a⟩
def entr (p : Pr) : List En := p.datas.flatMap daE ++ p.traits.flatMap trE ++ p.funcs.map fuE ++ p.actors.map acE
def entS (p : Pr) : List En := stabL enC (entr p)
theorem fldsL_snoc {names : List ByteArray} {types : List Y} {k : Nat} {a : ByteArray} (h : names[k]? = some a) : fldsL (names.take (k + 1)) types = fldsL (names.take k) types ++ [fldT types k a] := by
  obtain ⟨hk, rfl⟩ := List.getElem?_eq_some_iff.1 h
  unfold fldsL
  rw [List.take_succ_eq_append_getElem hk, List.mapIdx_append]
  simp [List.length_take, Nat.min_eq_left (Nat.le_of_lt hk)]
theorem fldsL_len (names : List ByteArray) (types : List Y) : (fldsL names types).length = names.length := by simp [fldsL]
theorem tyAt_size (types : List Y) (i : Nat) : (tyAt types i).size ≤ 12 * Y.sizes types + 1 := by
  unfold tyAt
  cases h : types[i]? with
  | none => simp [ByteArray.size]
  | some y =>
    have h1 := y.text_size
    have h2 := Y.size_mem (List.mem_of_getElem? h)
    simp only [Option.map_some, Option.getD_some]
    omega
theorem tyAt_some {types : List Y} {i : Nat} {y : Y} (h : types[i]? = some y) : tyAt types i = y.text := by simp [tyAt, h]
theorem tyAt_none {types : List Y} {i : Nat} (h : types.length ≤ i) : tyAt types i = ⟨#[63]⟩ := by simp [tyAt, List.getElem?_eq_none h]
/-- the sizes of fields -/
theorem flds_lens (names : List ByteArray) : ∀ (types : List Y), lensS (fldsL names types) ≤ 5 * strSize names + 12 * Y.sizes types := by
  induction names with
  | nil => intro types; simp [fldsL, lensS]
  | cons a l ih =>
    intro types
    have e : fldsL (a :: l) types = fldT types 0 a :: fldsL l types.tail := by
      unfold fldsL
      rw [List.mapIdx_cons]
      congr 1
      apply List.ext_getElem?
      intro i
      simp only [List.getElem?_mapIdx]
      cases l[i]? with
      | none => rfl
      | some b => simp [fldT, tyAt]
    have h2 : (fldT types 0 a).size = a.size + 2 + (tyAt types 0).size := by
      unfold fldT
      rw [ByteArray.size_append, ByteArray.size_append]
      rfl
    have h3 : (tyAt types 0).size + 12 * Y.sizes types.tail ≤ 12 * Y.sizes types + 1 := by
      cases types with
      | nil => simp [tyAt, Y.sizes, ByteArray.size]
      | cons y r =>
        have := y.text_size
        simp only [tyAt, List.getElem?_cons_zero, Option.map_some, Option.getD_some, List.tail_cons, Y.sizes]
        omega
    have h1 := ih types.tail
    rw [e, lensS_cons, h2]
    have h4 : strSize (a :: l) = a.size + 1 + strSize l := rfl
    rw [h4]
    omega
theorem parS_size (l : List ByteArray) : (parS l).size ≤ 2 + 2 * strSize l := by
  unfold parS
  split
  · simp [ByteArray.size]
  · rw [ByteArray.size_append, ByteArray.size_append]
    have h1 := joinS_size l
    have h2 : lensS l ≤ 2 * strSize l := by
      induction l with
      | nil => simp [lensS]
      | cons a l ih =>
        have h4 : strSize (a :: l) = a.size + 1 + strSize l := rfl
        rw [lensS_cons, h4]
        cases l with
        | nil => simp [lensS, strSize]; omega
        | cons b l =>
          have h5 := ih (by simp) (joinS_size _)
          omega
    have h3 : (⟨#[91]⟩ : ByteArray).size = 1 := rfl
    have h4 : (⟨#[93]⟩ : ByteArray).size = 1 := rfl
    omega
theorem fldsS_size (names : List ByteArray) (types : List Y) : (fldsS names types).size ≤ 2 + 5 * strSize names + 12 * Y.sizes types := by
  unfold fldsS
  rw [ByteArray.size_append, ByteArray.size_append]
  have h1 := joinS_size (fldsL names types)
  have h2 := flds_lens names types
  have h3 : (⟨#[40]⟩ : ByteArray).size = 1 := rfl
  have h4 : (⟨#[41]⟩ : ByteArray).size = 1 := rfl
  omega
theorem descS_size (m : Mk) : (descS m).size + 2 ≤ 14 * m.size := by
  obtain ⟨n, l⟩ := m
  have h0 : (Mk.mk n l).size = n.size + Y.sizes l + 1 := rfl
  rw [h0]
  unfold descS
  dsimp only
  split
  · omega
  · rw [ByteArray.size_append, ByteArray.size_append, ByteArray.size_append]
    have h1 := joinS_size (l.map Y.text)
    have h2 := Y.lens l
    have h3 : (⟨#[40]⟩ : ByteArray).size = 1 := rfl
    have h4 : (⟨#[41]⟩ : ByteArray).size = 1 := rfl
    omega
theorem desc_lens (l : List Mk) : lensS (l.map descS) ≤ 14 * Mk.sizes l := by
  induction l with
  | nil => simp [lensS]
  | cons m l ih =>
    have h1 := descS_size m
    have h2 : Mk.sizes (m :: l) = m.size + Mk.sizes l := by simp [Mk.sizes]
    rw [List.map_cons, lensS_cons, h2]
    omega
theorem funS_size (f : Fu) : (funS f).size ≤ 20 * f.size := by
  obtain ⟨n, ps, ns, ts, o, b⟩ := f
  have h0 : (Fu.mk n ps ns ts o b).size = n.size + strSize ps + strSize ns + Y.sizes ts + o.size + b.size + 1 := rfl
  rw [h0]
  unfold funS
  dsimp only
  rw [ByteArray.size_append, ByteArray.size_append, ByteArray.size_append, ByteArray.size_append, ByteArray.size_append]
  have h1 := parS_size ps
  have h2 := fldsS_size ns ts
  have h3 := o.text_size
  have h4 : (⟨#[102, 117, 110, 32]⟩ : ByteArray).size = 4 := rfl
  have h5 : (⟨#[58, 32]⟩ : ByteArray).size = 2 := rfl
  omega
theorem names_lens (l : List Fu) : lensS (l.map Fu.name) ≤ 2 * Fu.sizes l := by
  induction l with
  | nil => simp [lensS]
  | cons f l ih =>
    have h1 : f.name.size + 1 ≤ f.size := by obtain ⟨n, ps, ns, ts, o, b⟩ := f; simp only [Fu.size]; omega
    have h2 : Fu.sizes (f :: l) = f.size + Fu.sizes l := by simp [Fu.sizes]
    rw [List.map_cons, lensS_cons, h2]
    omega
theorem daE_len (d : Da) : (daE d).length ≤ d.size := by
  obtain ⟨n, ps, ms⟩ := d
  have h0 : (Da.mk n ps ms).size = n.size + strSize ps + Mk.sizes ms + 1 := rfl
  have h1 := Mk.len_sizes ms
  rw [h0]
  simp only [daE, List.length_append, List.length_map, List.length_singleton]
  omega
theorem trE_len (t : Tr) : (trE t).length ≤ t.size := by
  obtain ⟨n, fs⟩ := t
  have h0 : (Tr.mk n fs).size = n.size + Fu.sizes fs + 1 := rfl
  have h1 := Fu.len_sizes fs
  rw [h0]
  simp only [trE, List.length_append, List.length_map, List.length_singleton]
  omega
theorem flat_le {α β : Type} (f : α → List β) (μ : α → Nat) (h : ∀ a, (f a).length ≤ μ a) : ∀ l : List α, (l.flatMap f).length ≤ (l.map μ).sum
  | [] => by simp
  | a :: l => by
    have := flat_le f μ h l
    have := h a
    simp only [List.flatMap_cons, List.length_append, List.map_cons, List.sum_cons]
    omega
theorem entr_len (p : Pr) : (entr p).length ≤ p.size := by
  obtain ⟨n, v, us, ds, ts, ims, fs, acs⟩ := p
  have h0 : (Pr.mk n v us ds ts ims fs acs).size = n.size + Us.sizes us + Da.sizes ds + Tr.sizes ts + Im.sizes ims + Fu.sizes fs + Ac.sizes acs + 1 := rfl
  have h1 : _ ≤ Da.sizes ds := flat_le daE Da.size daE_len ds
  have h2 : _ ≤ Tr.sizes ts := flat_le trE Tr.size trE_len ts
  have h3 := Fu.len_sizes fs
  have h4 := Ac.len_sizes acs
  rw [h0]
  simp only [entr, List.length_append, List.length_map]
  omega
end Go.Proofs.YtbfomgchjlkopaaDoor
namespace Go.Proofs.YtbfomgchjlkopaaDoor
open Go.RowKit
theorem txt7 (nm : ByteArray) {xs : List ByteArray} (h : ¬ xs.length = 0) : txt 7 nm xs = ⟨#[102, 110, 40]⟩ ++ joinS (xs.take (xs.length - 1)) ⟨#[44, 32]⟩ ++ ⟨#[41, 58, 32]⟩ ++ xs.getD (xs.length - 1) ⟨#[]⟩ := by
  unfold txt
  rw [if_neg (by decide), if_neg (by decide), if_neg (by decide), if_neg (by decide), if_neg (by decide), if_neg (by decide), if_pos rfl, if_neg h]
set_option maxRecDepth 100000 in
set_option maxHeartbeats 1000000 in
theorem showK7a (nm : ByteArray) (l : List Y) (hl0 : l.length = 0) : AF Tryd.prog 45 [(Y.mk 7 nm l).t] (· = .lit (.string (Y.mk 7 nm l).text)) := by
  obtain rfl := List.length_eq_zero_iff.1 hl0
  have d1 : decide ((0 : Int) ≤ (([] : List Y).length : Int) - 1) = false := by decide
  refine af_enter tok Tryd.func45 Tryd.ntmps45 Tryd.results45 rfl (by kernel_rfl) rfl rfl fun F hX => ?_
  repeat (first | refine gG ?_ | refine zN1 (fun hlen => ?_) | refine zN2 (fun hlen => ?_) | refine zSub ?_ | refine zBx (fun _ => ?_))
  first | refine zR ?_ | refine zQ ?_
  rfl
set_option maxRecDepth 100000 in
set_option maxHeartbeats 1000000 in
theorem showK7b (nm : ByteArray) (l : List Y) (n : Nat) (hn : l.length = n + 1) (hv : (Y.mk 7 nm l).size ≤ 1048576) (ih' : ∀ a ∈ l, AF Tryd.prog 45 [a.t] (· = .lit (.string a.text))) : AF Tryd.prog 45 [(Y.mk 7 nm l).t] (· = .lit (.string (Y.mk 7 nm l).text)) := by
  have hls := Y.len_sizes l
  have hsz : Y.sizes l + nm.size + 1 ≤ 1048576 := by simpa [Y.size] using hv
  obtain ⟨a, ha⟩ := nth (l := l) (k := n) (by omega)
  have hfa := ih' a (List.mem_of_getElem? ha)
  have hb2 := Y.lens (l.take n)
  have hb3 := Y.take_sizes l n
  have hjt := joined_af (l.take n) (by simp; omega) (by omega) (fun b hb' => ih' b (List.mem_of_mem_take hb'))
  have hjs2 := joinS_size ((l.take n).map Y.text)
  have hta := a.text_size
  have htb := Y.size_mem (List.mem_of_getElem? ha)
  have hrow : T.row n 3 ((Y.all l).take (n * 3)) = Y.row (l.take n) := by rw [Y.all_take, Y.row]; congr 1; simp; omega
  have hat := Y.at ha
  rw [← hrow] at hjt
  have hT : (Y.mk 7 nm l).text = ⟨#[102, 110, 40]⟩ ++ joinS ((l.take n).map Y.text) ⟨#[44, 32]⟩ ++ ⟨#[41, 58, 32]⟩ ++ a.text := by
    have h1 := Y.text_at ha
    have h2 : (Y.texts l).length = n + 1 := by rw [Y.texts_eq]; simpa using hn
    rw [Y.text, txt7 nm (by omega), h2, Nat.add_sub_cancel, h1, Y.texts_eq, List.map_take]
  rw [hT]
  have d1 : decide ((0 : Int) ≤ ((l.length : Nat) : Int) - 1) = true := by rw [hn]; simp
  have hle : n ≤ l.length := by omega
  have hlt : n < l.length := by omega
  have hzz : ((l.length : Nat) : Int) - 1 = (n : Int) := by omega
  clear hT hv hrow hls
  generalize a.text = ax at *
  generalize joinS ((l.take n).map Y.text) ⟨#[44, 32]⟩ = jx at *
  obtain ⟨ka, na, la⟩ := a
  refine af_enter tok Tryd.func45 Tryd.ntmps45 Tryd.results45 rfl (by kernel_rfl) rfl rfl fun F hX => ?_
  repeat (first | refine gG ?_ | refine zN1 (fun hlen => ?_) | refine zN2 (fun hlen => ?_) | refine zSub ?_ | refine zBx (fun _ => ?_))
  refine ac_draw [1, 1, 1, 1, 1, 1, 1, 1, 1, 1, 1, 1, 1, 1, 1] [0, 1, 2, 3, 4, 5, 6, 7, 8, 9, 10, 11, 12, 13, 14] (by kernel_rfl) (by kernel_rfl) ?_
  refine gW ?_
  apply w_q; (focus exact rfl); (focus exact rfl); focus (intro _; (refine zPh n hle hzz ?_); exact det_refl)
  apply w_q; (focus exact rfl); (focus exact rfl); focus (intro _; (refine lo_call hjt rfl (by repeat (first | exact rzs_nil | apply rzs_cons | exact rz_c | exact rz_nil rfl | apply rz_agg | exact rz_own rfl | apply rz_fn | exact rz_ptr rfl | apply rz_tup)) ?_; rintro _ rfl); exact det_refl)
  apply w_q; (focus exact rfl); (focus exact rfl); focus (intro _; (refine zCat ?_); exact det_refl)
  apply w_q; (focus exact rfl); (focus exact rfl); focus (intro _; (refine zCat ?_); exact det_refl)
  refine gW ?_
  apply w_q; (focus exact rfl); (focus exact rfl); focus (intro _; (refine zIx n hlt ?_ (hz := hzz)); exact det_refl)
  apply w_q; (focus exact rfl); (focus exact rfl); focus (intro _; (refine zEl hat (Y.ts_len _) ?_); exact det_refl)
  apply w_q; (focus exact rfl); (focus exact rfl); focus (intro _; (refine lo_call hfa rfl (by repeat (first | exact rzs_nil | apply rzs_cons | exact rz_c | exact rz_nil rfl | apply rz_agg | exact rz_own rfl | apply rz_fn | exact rz_ptr rfl | apply rz_tup)) ?_; rintro _ rfl); exact det_refl)
  apply w_q; (focus exact rfl); (focus exact rfl); focus (intro _; (refine zCat ?_); exact det_refl)
  refine gW ?_
  refine w_nil ?_
  repeat (first | refine gG ?_ | refine zN1 (fun hlen => ?_) | refine zN2 (fun hlen => ?_) | refine zSub ?_ | refine zBx (fun _ => ?_))
  first | refine zR ?_ | refine zQ ?_
  rfl
theorem showType_af (y : Y) (hv : y.size ≤ 1048576) : AF Tryd.prog 45 [y.t] (· = .lit (.string y.text)) := by
  induction y using Y.ind with
  | h k nm l ih =>
    have ih' : ∀ a ∈ l, AF Tryd.prog 45 [a.t] (· = .lit (.string a.text)) := fun a ha => ih a ha (by have := Y.size_mem ha; simp only [Y.size] at hv; omega)
    by_cases k1 : k = 1
    · subst k1; exact showK1 nm l hv ih'
    by_cases k2 : k = 2
    · subst k2; exact showK2 nm l hv ih'
    by_cases k3 : k = 3
    · subst k3; exact showK3 nm l hv ih'
    by_cases k4 : k = 4
    · subst k4; exact showK4 nm l hv ih'
    by_cases k5 : k = 5
    · subst k5; exact showK5 nm l hv ih'
    by_cases k6 : k = 6
    · subst k6; exact showK6 nm l hv ih'
    by_cases k7 : k = 7
    · subst k7
      cases hl : l.length with
      | zero => exact showK7a nm l hl
      | succ n => exact showK7b nm l n hl hv ih'
    by_cases k8 : k = 8
    · subst k8; exact showK8 nm l hv ih'
    by_cases k9 : k = 9
    · subst k9; exact showK9 nm l hv ih'
    exact showK0 k nm l k1 k2 k3 k4 k5 k6 k7 k8 k9 hv ih'
set_option maxRecDepth 100000 in
theorem pageType_af (y : Y) (hv : y.size ≤ 1048576) : AF Tryd.prog 31 [y.t] (· = .lit (.string y.text)) := by
  have h := showType_af y hv
  generalize y.text = ax at *
  obtain ⟨k, nm, l⟩ := y
  refine af_enter tok Tryd.func31 Tryd.ntmps31 Tryd.results31 rfl (by kernel_rfl) rfl rfl fun F hX => ?_
  repeat (first | refine gG ?_ | refine zBx (fun _ => ?_))
  refine zCall (h) ?_
  rintro _ rfl
  repeat (first | refine gG ?_ | refine zBx (fun _ => ?_))
  first | refine zR ?_ | refine zQ ?_
  rfl
end Go.Proofs.YtbfomgchjlkopaaDoor
namespace Go.Proofs.YtbfomgchjlkopaaDoor
open Go.RowKit
theorem flat_take1 (l : List ByteArray) (n : Nat) : (l.flatMap strTs).take (n * 1) = (l.take n).flatMap strTs := by
  rw [Nat.mul_one]
  induction l generalizing n with
  | nil => simp
  | cons s l ih =>
    cases n with
    | zero => simp
    | succ n => simpa [strTs] using ih n
set_option maxRecDepth 100000 in
set_option maxHeartbeats 4000000 in
theorem typeText_af (y : Y) (hv : y.size ≤ 1048576) : AF Tryd.prog 21 [y.t] (· = .lit (.string y.text)) := by
  induction y using Y.ind with
  | h k nm l ih =>
    have ih' : ∀ a ∈ l, AF Tryd.prog 21 [a.t] (· = .lit (.string a.text)) := fun a ha => ih a ha (by have := Y.size_mem ha; simp only [Y.size] at hv; omega)
    have hls := Y.len_sizes l
    have hsz : Y.sizes l + nm.size + 1 ≤ 1048576 := by simpa [Y.size] using hv
    have hb := Y.lens l
    have hj := join_af (l.map Y.text) ⟨#[44, 32]⟩ (by simp; omega) (by have := joinS_len (l.map Y.text); omega)
    have hjs := joinS_size (l.map Y.text)
    have hT : Y.text (.mk k nm l) = txt k nm (l.map Y.text) := by rw [Y.text, Y.texts_eq]
    rw [hT]
    clear hT hv ih
    refine af_enter tok Tryd.func21 Tryd.ntmps21 Tryd.results21 rfl (by kernel_rfl) rfl rfl fun F hX => ?_
    repeat (first | refine gG ?_ | refine zN1 (fun hlen => ?_) | refine zN2 (fun hlen => ?_) | refine zSub ?_ | refine zAl (fun _ => ?_) | refine zBx (fun _ => ?_) | refine zAp (fun _ => ?_))
    rename_i b0
    refine x_own 3 9 1 rfl rfl rfl rfl rfl ?_
    refine x_loop [3, 5, 10, 11, 12, 13, 14, 15, 16, 17, 18, 19] (fun y : Nat × Value => [(10, .c (.lit (.int .i64 y.1))), (3, .own 1 y.2)]) (fun y => [.box b0 64 [.c (.lit (.int .i64 k)), .c (.lit (.string nm)), .c (Y.row l)], .row y.2 9 1 ((l.take y.1).map Y.text).length (((l.take y.1).map Y.text).flatMap strTs)]) (fun y => y.1 ≤ l.length) (fun y => l.length - y.1) (0, .slice none 0 0) (Nat.zero_le _) ⟨rfl, rfl, trivial⟩ rfl ?_
    rintro ⟨i, v⟩ hk
    dsimp only at hk ⊢
    have hlk := len_mt Y.text hk
    repeat (first | refine gG ?_ | refine zN1 (fun hlen => ?_) | refine zN2 (fun hlen => ?_) | refine zSub ?_ | refine zAl (fun _ => ?_) | refine zBx (fun _ => ?_) | refine zAp (fun _ => ?_))
    refine x_cond rfl (fun h => ?_) (fun h => ?_)
    · have hk' : i < l.length := by simpa using h
      obtain ⟨a, ha⟩ := nth hk'
      have hfa := ih' a (List.mem_of_getElem? ha)
      have hsn := str_snoc Y.text ha
      have hsl := len_ms Y.text ha
      repeat (first | refine gG ?_ | refine zN1 (fun hlen => ?_) | refine zN2 (fun hlen => ?_) | refine zSub ?_ | refine zAl (fun _ => ?_) | refine zBx (fun _ => ?_) | refine zAp (fun _ => ?_))
      refine zIx (i) (hk') ?_
      repeat (first | refine gG ?_ | refine zN1 (fun hlen => ?_) | refine zN2 (fun hlen => ?_) | refine zSub ?_ | refine zAl (fun _ => ?_) | refine zBx (fun _ => ?_) | refine zAp (fun _ => ?_))
      refine zEl (Y.at ha) (Y.ts_len a) ?_
      generalize Y.text a = ax at *
      obtain ⟨ka, ta, la⟩ := a
      repeat (first | refine gG ?_ | refine zN1 (fun hlen => ?_) | refine zN2 (fun hlen => ?_) | refine zSub ?_ | refine zAl (fun _ => ?_) | refine zBx (fun _ => ?_) | refine zAp (fun _ => ?_))
      refine zCall (hfa) ?_
      rintro _ rfl
      repeat (first | refine gG ?_ | refine zN1 (fun hlen => ?_) | refine zN2 (fun hlen => ?_) | refine zSub ?_ | refine zAl (fun _ => ?_) | refine zBx (fun _ => ?_) | refine zAp (fun _ => ?_))
      exact ⟨(i + 1, _), hk', by simp only; omega, x_wkd 2 ⟨rfl, rfl, trivial⟩ (by simp only [hsn, hsl]; rfl) (by repeat (first | exact ag_refl | refine ag_upd rfl ?_ | refine ag_at rfl rfl ?_))⟩
    · have hk' : i = l.length := by have : ¬ i < l.length := by simpa using h
                                    omega
      subst hk'
      rw [List.take_length] at *
      clear hlk
      refine x_frz hX 3 rfl rfl rfl rfl ?_
      repeat (first | refine gG ?_ | refine zN1 (fun hlen => ?_) | refine zN2 (fun hlen => ?_) | refine zSub ?_ | refine zAl (fun _ => ?_) | refine zBx (fun _ => ?_) | refine zAp (fun _ => ?_))
      refine zCall (hj) ?_
      rintro _ rfl
      have hxl : (l.map Y.text).length = l.length := by simp
      have hjs' : (joinS (l.map Y.text) ⟨#[44, 32]⟩).size ≤ 12 * 1048576 := by omega
      have hnm : nm.size ≤ 1048576 := by omega
      by_cases k1 : k = 1
      · subst k1
        repeat (first | refine gG ?_ | refine zN1 (fun hlen => ?_) | refine zN2 (fun hlen => ?_) | refine zSub ?_ | refine zAl (fun _ => ?_) | refine zBx (fun _ => ?_) | refine zAp (fun _ => ?_))
        refine zIx 1 (show 1 < 5 by omega) ?_
        repeat (first | refine gG ?_ | refine zN1 (fun hlen => ?_) | refine zN2 (fun hlen => ?_) | refine zSub ?_ | refine zAl (fun _ => ?_) | refine zBx (fun _ => ?_) | refine zAp (fun _ => ?_))
        first | refine zR ?_ | refine zQ ?_
        simp [txt, outT]
      by_cases k2 : k = 2
      · subst k2
        repeat (first | refine gG ?_ | refine zN1 (fun hlen => ?_) | refine zN2 (fun hlen => ?_) | refine zSub ?_ | refine zAl (fun _ => ?_) | refine zBx (fun _ => ?_) | refine zAp (fun _ => ?_))
        refine zIx 2 (show 2 < 5 by omega) ?_
        repeat (first | refine gG ?_ | refine zN1 (fun hlen => ?_) | refine zN2 (fun hlen => ?_) | refine zSub ?_ | refine zAl (fun _ => ?_) | refine zBx (fun _ => ?_) | refine zAp (fun _ => ?_))
        first | refine zR ?_ | refine zQ ?_
        simp [txt, outT]
      by_cases k3 : k = 3
      · subst k3
        repeat (first | refine gG ?_ | refine zN1 (fun hlen => ?_) | refine zN2 (fun hlen => ?_) | refine zSub ?_ | refine zAl (fun _ => ?_) | refine zBx (fun _ => ?_) | refine zAp (fun _ => ?_))
        refine zIx 3 (show 3 < 5 by omega) ?_
        repeat (first | refine gG ?_ | refine zN1 (fun hlen => ?_) | refine zN2 (fun hlen => ?_) | refine zSub ?_ | refine zAl (fun _ => ?_) | refine zBx (fun _ => ?_) | refine zAp (fun _ => ?_))
        first | refine zR ?_ | refine zQ ?_
        simp [txt, outT]
      by_cases k4 : k = 4
      · subst k4
        repeat (first | refine gG ?_ | refine zN1 (fun hlen => ?_) | refine zN2 (fun hlen => ?_) | refine zSub ?_ | refine zAl (fun _ => ?_) | refine zBx (fun _ => ?_) | refine zAp (fun _ => ?_))
        refine zIx 4 (show 4 < 5 by omega) ?_
        repeat (first | refine gG ?_ | refine zN1 (fun hlen => ?_) | refine zN2 (fun hlen => ?_) | refine zSub ?_ | refine zAl (fun _ => ?_) | refine zBx (fun _ => ?_) | refine zAp (fun _ => ?_))
        first | refine zR ?_ | refine zQ ?_
        simp [txt, outT]
      by_cases k5 : k = 5
      · subst k5
        repeat (first | refine gG ?_ | refine zN1 (fun hlen => ?_) | refine zN2 (fun hlen => ?_) | refine zSub ?_ | refine zAl (fun _ => ?_) | refine zBx (fun _ => ?_) | refine zAp (fun _ => ?_))
        first | refine zR ?_ | refine zQ ?_
        simp [txt, outT]
      by_cases k6 : k = 6
      · subst k6
        cases d1 : decide (((l.map Y.text).length : Int) = 0)
        · have hl0 : ¬ l.length = 0 := by have := of_decide_eq_false d1; rw [hxl] at this; omega
          repeat (first | refine gG ?_ | refine zN1 (fun hlen => ?_) | refine zN2 (fun hlen => ?_) | refine zSub ?_ | refine zAl (fun _ => ?_) | refine zBx (fun _ => ?_) | refine zAp (fun _ => ?_))
          refine zCat ?_
          repeat (first | refine gG ?_ | refine zN1 (fun hlen => ?_) | refine zN2 (fun hlen => ?_) | refine zSub ?_ | refine zAl (fun _ => ?_) | refine zBx (fun _ => ?_) | refine zAp (fun _ => ?_))
          refine zCat ?_
          repeat (first | refine gG ?_ | refine zN1 (fun hlen => ?_) | refine zN2 (fun hlen => ?_) | refine zSub ?_ | refine zAl (fun _ => ?_) | refine zBx (fun _ => ?_) | refine zAp (fun _ => ?_))
          refine zCat ?_
          repeat (first | refine gG ?_ | refine zN1 (fun hlen => ?_) | refine zN2 (fun hlen => ?_) | refine zSub ?_ | refine zAl (fun _ => ?_) | refine zBx (fun _ => ?_) | refine zAp (fun _ => ?_))
          first | refine zR ?_ | refine zQ ?_
          simp [txt, outT, hl0]
        · have hl0 : l.length = 0 := by have := of_decide_eq_true d1; rw [hxl] at this; omega
          repeat (first | refine gG ?_ | refine zN1 (fun hlen => ?_) | refine zN2 (fun hlen => ?_) | refine zSub ?_ | refine zAl (fun _ => ?_) | refine zBx (fun _ => ?_) | refine zAp (fun _ => ?_))
          first | refine zR ?_ | refine zQ ?_
          simp [txt, outT, hl0]
      by_cases k7 : k = 7
      · subst k7
        cases d1 : decide ((0 : Int) < ((l.map Y.text).length : Int))
        · have hl0 : l.length = 0 := by have := of_decide_eq_false d1; rw [hxl] at this; omega
          repeat (first | refine gG ?_ | refine zN1 (fun hlen => ?_) | refine zN2 (fun hlen => ?_) | refine zSub ?_ | refine zAl (fun _ => ?_) | refine zBx (fun _ => ?_) | refine zAp (fun _ => ?_))
          first | refine zR ?_ | refine zQ ?_
          simp [txt, outT, hl0]
        · have hl0 : 0 < l.length := by have := of_decide_eq_true d1; rw [hxl] at this; omega
          obtain ⟨n, hn⟩ : ∃ n, l.length = n + 1 := ⟨l.length - 1, by omega⟩
          obtain ⟨a, ha⟩ := nth (l := l) (k := n) (by omega)
          have ha' : (l.map Y.text)[n]? = some a.text := by rw [List.getElem?_map, ha]; rfl
          have hat := str_at ha'
          have hb2 := Y.lens (l.take n)
          have hb3 := Y.take_sizes l n
          have hj2 := join_af ((l.take n).map Y.text) ⟨#[44, 32]⟩ (by simp; omega) (by have := joinS_len ((l.take n).map Y.text); omega)
          have hjs2 := joinS_size ((l.take n).map Y.text)
          have hta := a.text_size
          have htb := Y.size_mem (List.mem_of_getElem? ha)
          have hrow : T.row n 1 (((l.map Y.text).flatMap strTs).take (n * 1)) = strRow ((l.take n).map Y.text) := by
            rw [strRow, flat_take1, List.map_take]; congr 1; simp; omega
          rw [← hrow] at hj2
          have hle : n ≤ (l.map Y.text).length := by omega
          have hlt : n < (l.map Y.text).length := by omega
          have hzz : (((l.map Y.text).length : Nat) : Int) - 1 = (n : Int) := by omega
          have hT : txt 7 nm (l.map Y.text) = ⟨#[102, 110, 40]⟩ ++ joinS ((l.take n).map Y.text) ⟨#[44, 32]⟩ ++ ⟨#[41, 58, 32]⟩ ++ a.text := by
            rw [txt7 nm (by omega), hxl, hn, Nat.add_sub_cancel, List.getD_eq_getElem?_getD, ha', List.map_take]; rfl
          rw [hT]
          generalize a.text = ax at *
          generalize joinS ((l.take n).map Y.text) ⟨#[44, 32]⟩ = jx at *
          have hax : ax.size ≤ 12 * 1048576 := by omega
          have hjx : jx.size ≤ 12 * 1048576 := by omega
          have hat1 : (List.flatMap strTs (List.map Y.text l))[n * 1]? = some (T.lit (Value.string ax)) := by rw [Nat.mul_one]; exact hat
          repeat (first | refine gG ?_ | refine zN1 (fun hlen => ?_) | refine zN2 (fun hlen => ?_) | refine zSub ?_ | refine zAl (fun _ => ?_) | refine zBx (fun _ => ?_) | refine zAp (fun _ => ?_))
          refine ac_draw [1, 1, 1, 1, 1, 1, 1, 1, 1, 1, 1, 1, 1, 1, 1, 1] [0, 1, 2, 3, 4, 5, 6, 7, 8, 9, 10, 11, 12, 13, 14, 15] (by kernel_rfl) (by kernel_rfl) ?_
          refine gW ?_
          apply w_q; (focus exact rfl); (focus exact rfl); focus (intro _; (refine zSub ?_); exact det_refl)
          apply w_q; (focus exact rfl); (focus exact rfl); focus (intro _; (refine zPh n hle hzz ?_); exact det_refl)
          apply w_q; (focus exact rfl); (focus exact rfl); focus (intro _; (refine lo_call hj2 rfl (by repeat (first | exact rzs_nil | apply rzs_cons | exact rz_c | exact rz_nil rfl | apply rz_agg | exact rz_own rfl | apply rz_fn | exact rz_ptr rfl | apply rz_tup)) ?_; rintro _ rfl); exact det_refl)
          apply w_q; (focus exact rfl); (focus exact rfl); focus (intro _; (refine zCat ?_); exact det_refl)
          apply w_q; (focus exact rfl); (focus exact rfl); focus (intro _; (refine zCat ?_); exact det_refl)
          refine gW ?_
          apply w_q; (focus exact rfl); (focus exact rfl); focus (intro _; (refine zSub ?_); exact det_refl)
          apply w_q; (focus exact rfl); (focus exact rfl); focus (intro _; (refine zIx n hlt ?_ (hz := hzz)); exact det_refl)
          apply w_q; (focus exact rfl); (focus exact rfl); focus (intro _; (refine zEl1 hat1 ?_); exact det_refl)
          apply w_q; (focus exact rfl); (focus exact rfl); focus (intro _; (refine zCat ?_); exact det_refl)
          refine gW ?_
          refine w_nil ?_
          repeat (first | refine gG ?_ | refine zN1 (fun hlen => ?_) | refine zN2 (fun hlen => ?_) | refine zSub ?_ | refine zAl (fun _ => ?_) | refine zBx (fun _ => ?_) | refine zAp (fun _ => ?_))
          first | refine zR ?_ | refine zQ ?_
          rfl
      by_cases k8 : k = 8
      · subst k8
        repeat (first | refine gG ?_ | refine zN1 (fun hlen => ?_) | refine zN2 (fun hlen => ?_) | refine zSub ?_ | refine zAl (fun _ => ?_) | refine zBx (fun _ => ?_) | refine zAp (fun _ => ?_))
        refine zCat ?_
        repeat (first | refine gG ?_ | refine zN1 (fun hlen => ?_) | refine zN2 (fun hlen => ?_) | refine zSub ?_ | refine zAl (fun _ => ?_) | refine zBx (fun _ => ?_) | refine zAp (fun _ => ?_))
        refine zCat ?_
        repeat (first | refine gG ?_ | refine zN1 (fun hlen => ?_) | refine zN2 (fun hlen => ?_) | refine zSub ?_ | refine zAl (fun _ => ?_) | refine zBx (fun _ => ?_) | refine zAp (fun _ => ?_))
        first | refine zR ?_ | refine zQ ?_
        simp [txt, outT]
      by_cases k9 : k = 9
      · subst k9
        repeat (first | refine gG ?_ | refine zN1 (fun hlen => ?_) | refine zN2 (fun hlen => ?_) | refine zSub ?_ | refine zAl (fun _ => ?_) | refine zBx (fun _ => ?_) | refine zAp (fun _ => ?_))
        refine zCat ?_
        repeat (first | refine gG ?_ | refine zN1 (fun hlen => ?_) | refine zN2 (fun hlen => ?_) | refine zSub ?_ | refine zAl (fun _ => ?_) | refine zBx (fun _ => ?_) | refine zAp (fun _ => ?_))
        refine zCat ?_
        repeat (first | refine gG ?_ | refine zN1 (fun hlen => ?_) | refine zN2 (fun hlen => ?_) | refine zSub ?_ | refine zAl (fun _ => ?_) | refine zBx (fun _ => ?_) | refine zAp (fun _ => ?_))
        first | refine zR ?_ | refine zQ ?_
        simp [txt, outT]
      have e5 : decide (k = 5) = false := by simpa using k5
      have e6 : decide (k = 6) = false := by simpa using k6
      have e7 : decide (k = 7) = false := by simpa using k7
      have e8 : decide (k = 8) = false := by simpa using k8
      have e9 : decide (k = 9) = false := by simpa using k9
      cases e1 : decide ((1 : Int) ≤ k)
      · repeat (first | refine gG ?_ | refine zN1 (fun hlen => ?_) | refine zN2 (fun hlen => ?_) | refine zSub ?_ | refine zAl (fun _ => ?_) | refine zBx (fun _ => ?_) | refine zAp (fun _ => ?_))
        first | refine zR ?_ | refine zQ ?_
        simp [txt, outT, k1, k2, k3, k4, k5, k6, k7, k8, k9]
      · have e4 : decide (k ≤ 4) = false := by have := of_decide_eq_true e1; simp; omega
        repeat (first | refine gG ?_ | refine zN1 (fun hlen => ?_) | refine zN2 (fun hlen => ?_) | refine zSub ?_ | refine zAl (fun _ => ?_) | refine zBx (fun _ => ?_) | refine zAp (fun _ => ?_))
        first | refine zR ?_ | refine zQ ?_
        simp [txt, outT, k1, k2, k3, k4, k5, k6, k7, k8, k9]
end Go.Proofs.YtbfomgchjlkopaaDoor
namespace Go.Proofs.YtbfomgchjlkopaaDoor
open Go.RowKit
theorem str_atP {l : List ByteArray} {k : Nat} {s : ByteArray} (h : l[k]? = some s) : (l.flatMap strTs)[k * 1]? = some (.lit (.string s)) := by rw [Nat.mul_one]; exact str_at h
theorem strSize_lens (l : List ByteArray) : lensS l ≤ 2 * strSize l := by
  induction l with
  | nil => simp [lensS]
  | cons a l ih =>
    have h4 : strSize (a :: l) = a.size + 1 + strSize l := rfl
    rw [lensS_cons, h4]
    omega
theorem joinC_af (l : List ByteArray) (h : lensS l ≤ 100000000) : AF Tryd.prog 23 [strRow l, .lit (.string ⟨#[44, 32]⟩)] (· = .lit (.string (joinS l ⟨#[44, 32]⟩))) :=
  join_af l _ (by have := lensS_len l; omega) (by have := joinS_len l; omega)
set_option maxRecDepth 100000 in
set_option maxHeartbeats 1000000 in
theorem params_af (l : List ByteArray) (hl : strSize l ≤ 1048576) : AF Tryd.prog 44 [strRow l] (· = .lit (.string (parS l))) := by
  have h1 := strSize_lens l
  have hj := joinC_af l (by omega)
  have hs := joinS_size l
  unfold parS
  by_cases h0 : l.length = 0
  · rw [if_pos h0]
    have d0 : decide (((l.length : Nat) : Int) = 0) = true := by rw [h0]; rfl
    refine af_enter tok Tryd.func44 Tryd.ntmps44 Tryd.results44 rfl (by kernel_rfl) rfl rfl fun F hX => ?_
    repeat (first | refine gG ?_ | refine zN1 (fun hlen => ?_) | refine zN2 (fun hlen => ?_))
    first | refine zR ?_ | refine zQ ?_
    rfl
  · rw [if_neg h0]
    have d0 : decide (((l.length : Nat) : Int) = 0) = false := decide_eq_false (by omega)
    generalize joinS l ⟨#[44, 32]⟩ = jx at *
    refine af_enter tok Tryd.func44 Tryd.ntmps44 Tryd.results44 rfl (by kernel_rfl) rfl rfl fun F hX => ?_
    repeat (first | refine gG ?_ | refine zN1 (fun hlen => ?_) | refine zN2 (fun hlen => ?_))
    refine zCall (hj) ?_
    rintro _ rfl
    repeat (first | refine gG ?_ | refine zN1 (fun hlen => ?_) | refine zN2 (fun hlen => ?_))
    refine zCat ?_
    repeat (first | refine gG ?_ | refine zN1 (fun hlen => ?_) | refine zN2 (fun hlen => ?_))
    refine zCat ?_
    repeat (first | refine gG ?_ | refine zN1 (fun hlen => ?_) | refine zN2 (fun hlen => ?_))
    first | refine zR ?_ | refine zQ ?_
    rfl
set_option maxRecDepth 100000 in
set_option maxHeartbeats 1000000 in
theorem square_af (l : List ByteArray) (hl : strSize l ≤ 1048576) : AF Tryd.prog 20 [strRow l] (· = .lit (.string (parS l))) := by
  have h1 := strSize_lens l
  have hj := joinC_af l (by omega)
  have hs := joinS_size l
  unfold parS
  by_cases h0 : l.length = 0
  · rw [if_pos h0]
    have d0 : decide (((l.length : Nat) : Int) > 0) = false := by rw [h0]; rfl
    refine af_enter tok Tryd.func20 Tryd.ntmps20 Tryd.results20 rfl (by kernel_rfl) rfl rfl fun F hX => ?_
    repeat (first | refine gG ?_ | refine zN1 (fun hlen => ?_) | refine zN2 (fun hlen => ?_))
    first | refine zR ?_ | refine zQ ?_
    rfl
  · rw [if_neg h0]
    have d0 : decide (((l.length : Nat) : Int) > 0) = true := decide_eq_true (by omega)
    generalize joinS l ⟨#[44, 32]⟩ = jx at *
    refine af_enter tok Tryd.func20 Tryd.ntmps20 Tryd.results20 rfl (by kernel_rfl) rfl rfl fun F hX => ?_
    repeat (first | refine gG ?_ | refine zN1 (fun hlen => ?_) | refine zN2 (fun hlen => ?_))
    refine zCall (hj) ?_
    rintro _ rfl
    repeat (first | refine gG ?_ | refine zN1 (fun hlen => ?_) | refine zN2 (fun hlen => ?_))
    refine zCat ?_
    repeat (first | refine gG ?_ | refine zN1 (fun hlen => ?_) | refine zN2 (fun hlen => ?_))
    refine zCat ?_
    repeat (first | refine gG ?_ | refine zN1 (fun hlen => ?_) | refine zN2 (fun hlen => ?_))
    first | refine zR ?_ | refine zQ ?_
    rfl
theorem flds_snocT {names : List ByteArray} {types : List Y} {k : Nat} {a : ByteArray} (h : names[k]? = some a) : (fldsL (names.take (k + 1)) types).flatMap strTs = (fldsL (names.take k) types).flatMap strTs ++ [.lit (.string (a ++ ⟨#[58, 32]⟩ ++ tyAt types k))] := by
  rw [fldsL_snoc h, List.flatMap_append]
  rfl
theorem flds_snocL {names : List ByteArray} {types : List Y} {k : Nat} {a : ByteArray} (h : names[k]? = some a) : (fldsL (names.take (k + 1)) types).length = (fldsL (names.take k) types).length + 1 := by
  rw [fldsL_snoc h, List.length_append]
  rfl
set_option maxRecDepth 100000 in
set_option maxHeartbeats 1000000 in
theorem fields_af (names : List ByteArray) (types : List Y) (hn : strSize names ≤ 1048576) (ht : Y.sizes types ≤ 1048576) : AF Tryd.prog 30 [strRow names, Y.row types] (· = .lit (.string (fldsS names types))) := by
  have h1 := flds_lens names types
  have hj := joinC_af (fldsL names types) (by omega)
  have hs := joinS_size (fldsL names types)
  have hln := strSize_len names
  unfold fldsS
  refine af_enter tok Tryd.func30 Tryd.ntmps30 Tryd.results30 rfl (by kernel_rfl) rfl rfl fun F hX => ?_
  repeat (first | refine gG ?_ | refine zN1 (fun hlen => ?_) | refine zN2 (fun hlen => ?_) | refine zAp (fun _ => ?_))
  refine x_own 5 9 1 rfl rfl rfl rfl rfl ?_
  refine x_loop [5, 6, 7, 8, 11, 12, 13, 14, 15, 16, 17, 18, 19, 20, 21, 22, 23, 24, 25, 26, 27, 28, 29, 30, 31, 32] (fun y : Nat × Value => [(11, .c (.lit (.int .i64 y.1))), (5, .own 0 y.2)]) (fun y => [.row y.2 9 1 (fldsL (names.take y.1) types).length ((fldsL (names.take y.1) types).flatMap strTs)]) (fun y => y.1 ≤ names.length) (fun y => names.length - y.1) (0, .slice none 0 0) (Nat.zero_le _) ⟨rfl, rfl, trivial⟩ rfl ?_
  rintro ⟨k, v⟩ hk
  dsimp only at hk ⊢
  have hlk : (fldsL (names.take k) types).length ≤ 1048576 := by rw [fldsL_len, List.length_take]; omega
  repeat (first | refine gG ?_ | refine zN1 (fun hlen => ?_) | refine zN2 (fun hlen => ?_) | refine zAp (fun _ => ?_))
  refine x_cond rfl (fun h => ?_) (fun h => ?_)
  · have hk' : k < names.length := by simpa using h
    obtain ⟨a, ha⟩ := nth hk'
    have hsn := flds_snocT (types := types) ha
    have hsl := flds_snocL (types := types) ha
    have hsz := tyAt_size types k
    have haz : a.size ≤ 1048576 := by
      have : a.size + 1 ≤ strSize names := sum_mem' (fun s : ByteArray => s.size + 1) (List.mem_of_getElem? ha)
      omega
    repeat (first | refine gG ?_ | refine zN1 (fun hlen => ?_) | refine zN2 (fun hlen => ?_) | refine zAp (fun _ => ?_))
    refine zIx k hk' ?_
    repeat (first | refine gG ?_ | refine zN1 (fun hlen => ?_) | refine zN2 (fun hlen => ?_) | refine zAp (fun _ => ?_))
    refine zEl1 (str_atP ha) ?_
    repeat (first | refine gG ?_ | refine zN1 (fun hlen => ?_) | refine zN2 (fun hlen => ?_) | refine zAp (fun _ => ?_))
    refine x_cond rfl (fun h2 => ?_) (fun h2 => ?_)
    · have hk2 : k < types.length := by simpa using h2
      obtain ⟨y, hy⟩ := nth hk2
      have hf := pageType_af y (by have := Y.size_mem (List.mem_of_getElem? hy); omega)
      rw [tyAt_some hy] at *
      generalize hax : Y.text y = ax at *
      repeat (first | refine gG ?_ | refine zN1 (fun hlen => ?_) | refine zN2 (fun hlen => ?_) | refine zAp (fun _ => ?_))
      refine zIx (k) (hk2) ?_
      repeat (first | refine gG ?_ | refine zN1 (fun hlen => ?_) | refine zN2 (fun hlen => ?_) | refine zAp (fun _ => ?_))
      refine zEl (Y.at hy) (Y.ts_len y) ?_
      obtain ⟨ka, ta, la⟩ := y
      repeat (first | refine gG ?_ | refine zN1 (fun hlen => ?_) | refine zN2 (fun hlen => ?_) | refine zAp (fun _ => ?_))
      refine zCall (hf) ?_
      rintro _ rfl
      repeat (first | refine gG ?_ | refine zN1 (fun hlen => ?_) | refine zN2 (fun hlen => ?_) | refine zAp (fun _ => ?_))
      refine zCat ?_
      repeat (first | refine gG ?_ | refine zN1 (fun hlen => ?_) | refine zN2 (fun hlen => ?_) | refine zAp (fun _ => ?_))
      refine zCat ?_
      repeat (first | refine gG ?_ | refine zN1 (fun hlen => ?_) | refine zN2 (fun hlen => ?_) | refine zAp (fun _ => ?_))
      exact ⟨(k + 1, _), hk', by simp only; omega, x_wkd 1 ⟨rfl, rfl, trivial⟩ (by simp only [hsn, hsl]; rfl) (by repeat (first | exact ag_refl | refine ag_upd rfl ?_ | refine ag_at rfl rfl ?_))⟩
    · have hk2 : types.length ≤ k := by simpa using h2
      rw [tyAt_none hk2] at *
      repeat (first | refine gG ?_ | refine zN1 (fun hlen => ?_) | refine zN2 (fun hlen => ?_) | refine zAp (fun _ => ?_))
      refine zCat ?_
      repeat (first | refine gG ?_ | refine zN1 (fun hlen => ?_) | refine zN2 (fun hlen => ?_) | refine zAp (fun _ => ?_))
      refine zCat ?_
      repeat (first | refine gG ?_ | refine zN1 (fun hlen => ?_) | refine zN2 (fun hlen => ?_) | refine zAp (fun _ => ?_))
      exact ⟨(k + 1, _), hk', by simp only; omega, x_wkd 1 ⟨rfl, rfl, trivial⟩ (by simp only [hsn, hsl]; rfl) (by repeat (first | exact ag_refl | refine ag_upd rfl ?_ | refine ag_at rfl rfl ?_))⟩
  · have hk' : k = names.length := by have : ¬ k < names.length := by simpa using h
                                      omega
    subst hk'
    rw [List.take_length]
    generalize joinS (fldsL names types) ⟨#[44, 32]⟩ = jx at *
    repeat (first | refine gG ?_ | refine zN1 (fun hlen => ?_) | refine zN2 (fun hlen => ?_) | refine zAp (fun _ => ?_))
    refine zPeek (hj) ?_
    rintro _ rfl
    refine ⟨rfl, ?_⟩
    repeat (first | refine gG ?_ | refine zN1 (fun hlen => ?_) | refine zN2 (fun hlen => ?_) | refine zAp (fun _ => ?_))
    refine zCat ?_
    repeat (first | refine gG ?_ | refine zN1 (fun hlen => ?_) | refine zN2 (fun hlen => ?_) | refine zAp (fun _ => ?_))
    refine zCat ?_
    repeat (first | refine gG ?_ | refine zN1 (fun hlen => ?_) | refine zN2 (fun hlen => ?_) | refine zAp (fun _ => ?_))
    first | refine zR ?_ | refine zQ ?_
    rfl
end Go.Proofs.YtbfomgchjlkopaaDoor
namespace Go.Proofs.YtbfomgchjlkopaaDoor
open Go.RowKit
theorem strSize_take (l : List ByteArray) (k : Nat) : strSize (l.take k) ≤ strSize l := by
  have : strSize l = strSize (l.take k) + strSize (l.drop k) := by
    unfold strSize
    rw [← List.sum_append, ← List.map_append, List.take_append_drop]
  omega
def prS (names : List ByteArray) (types : List Y) (k : Nat) : ByteArray := ⟨#[40]⟩ ++ joinS (fldsL (names.take k) types) ⟨#[44, 32]⟩
theorem prS_zero (names : List ByteArray) (types : List Y) : prS names types 0 = ⟨#[40]⟩ := by
  unfold prS
  rw [List.take_zero]
  rfl
theorem prS_one {names : List ByteArray} {types : List Y} {a : ByteArray} (h : names[0]? = some a) : prS names types (0 + 1) = prS names types 0 ++ (a ++ ⟨#[58, 32]⟩) ++ tyAt types 0 := by
  rw [prS_zero]
  unfold prS
  rw [fldsL_snoc h, List.take_zero]
  rw [show fldsL [] types ++ [fldT types 0 a] = [fldT types 0 a] from rfl, joinS_one, fldT, ba_assoc ⟨#[40]⟩]
theorem prS_succ {names : List ByteArray} {types : List Y} {k : Nat} {a : ByteArray} (h : names[k]? = some a) (hk : 0 < k) : prS names types (k + 1) = prS names types k ++ ⟨#[44, 32]⟩ ++ (a ++ ⟨#[58, 32]⟩) ++ tyAt types k := by
  unfold prS
  rw [fldsL_snoc h, joinS_snoc (by
    intro e
    have h2 := congrArg List.length e
    rw [fldsL_len, List.length_take] at h2
    have h3 := (List.getElem?_eq_some_iff.1 h).1
    simp only [List.length_nil] at h2
    omega), fldT]
  simp only [ba_assoc]
theorem prS_all (names : List ByteArray) (types : List Y) : prS names types names.length ++ ⟨#[41]⟩ = fldsS names types := by
  unfold prS fldsS
  rw [List.take_length]
theorem prS_size (names : List ByteArray) (types : List Y) (k : Nat) : (prS names types k).size ≤ 1 + 5 * strSize names + 12 * Y.sizes types := by
  unfold prS
  have h1 := flds_lens (names.take k) types
  have h2 := strSize_take names k
  have h3 := joinS_size (fldsL (names.take k) types)
  have h4 : (⟨#[40]⟩ : ByteArray).size = 1 := rfl
  rw [ByteArray.size_append, h4]
  omega
set_option maxRecDepth 100000 in
set_option maxHeartbeats 1000000 in
theorem paired_af (names : List ByteArray) (types : List Y) (hn : strSize names ≤ 1048576) (ht : Y.sizes types ≤ 1048576) : AF Tryd.prog 24 [strRow names, Y.row types] (· = .lit (.string (fldsS names types))) := by
  have hln := strSize_len names
  rw [← prS_all]
  refine af_enter tok Tryd.func24 Tryd.ntmps24 Tryd.results24 rfl (by kernel_rfl) rfl rfl fun F hX => ?_
  repeat (first | refine gG ?_ | refine zN1 (fun hlen => ?_) | refine zN2 (fun hlen => ?_))
  refine x_loop [5, 6, 7, 10, 11, 12, 13, 14, 15, 16, 17, 18, 19, 20, 21, 22, 23, 24, 25, 26, 27, 28, 29, 30, 31, 32, 33, 34, 35, 36] (fun k : Nat => [(10, .c (.lit (.int .i64 (k : Nat)))), (5, .c (.lit (.string (prS names types k))))]) (fun _ => []) (fun k => k ≤ names.length) (fun k => names.length - k) 0 (Nat.zero_le _) ⟨rfl, by rw [prS_zero]; rfl, trivial⟩ rfl ?_
  rintro k hk
  repeat (first | refine gG ?_ | refine zN1 (fun hlen => ?_) | refine zN2 (fun hlen => ?_))
  refine x_cond rfl (fun h => ?_) (fun h => ?_)
  · have hk' : k < names.length := by simpa using h
    obtain ⟨a, ha⟩ := nth hk'
    have hsz := tyAt_size types k
    have hpz := prS_size names types k
    have haz : a.size ≤ 1048576 := by
      have : a.size + 1 ≤ strSize names := sum_mem' (fun s : ByteArray => s.size + 1) (List.mem_of_getElem? ha)
      omega
    repeat (first | refine gG ?_ | refine zN1 (fun hlen => ?_) | refine zN2 (fun hlen => ?_))
    refine zIx k hk' ?_
    repeat (first | refine gG ?_ | refine zN1 (fun hlen => ?_) | refine zN2 (fun hlen => ?_))
    refine zEl1 (str_atP ha) ?_
    repeat (first | refine gG ?_ | refine zN1 (fun hlen => ?_) | refine zN2 (fun hlen => ?_))
    have hrest : ∀ s0 : ByteArray, s0.size ≤ 100000000 → prS names types (k + 1) = s0 ++ (a ++ ⟨#[58, 32]⟩) ++ tyAt types k → True := fun _ _ _ => trivial
    clear hrest
    by_cases hk0 : k = 0
    · subst hk0
      have hp1 := prS_one (types := types) ha
      generalize prS names types 0 = px at *
      have d1 : decide (((0 : Nat) : Int) > 0) = false := rfl
      repeat (first | refine gG ?_ | refine zN1 (fun hlen => ?_) | refine zN2 (fun hlen => ?_))
      refine zCat ?_
      repeat (first | refine gG ?_ | refine zN1 (fun hlen => ?_) | refine zN2 (fun hlen => ?_))
      refine zCat ?_
      repeat (first | refine gG ?_ | refine zN1 (fun hlen => ?_) | refine zN2 (fun hlen => ?_))
      refine x_cond rfl (fun h2 => ?_) (fun h2 => ?_)
      · have hk2 : 0 < types.length := by simpa using h2
        obtain ⟨y, hy⟩ := nth hk2
        have hf := typeText_af y (by have := Y.size_mem (List.mem_of_getElem? hy); omega)
        rw [tyAt_some hy] at *
        generalize hax : Y.text y = ax at *
        repeat (first | refine gG ?_ | refine zN1 (fun hlen => ?_) | refine zN2 (fun hlen => ?_))
        refine zIx (0) (hk2) ?_
        repeat (first | refine gG ?_ | refine zN1 (fun hlen => ?_) | refine zN2 (fun hlen => ?_))
        refine zEl (Y.at hy) (Y.ts_len y) ?_
        obtain ⟨ka, ta, la⟩ := y
        repeat (first | refine gG ?_ | refine zN1 (fun hlen => ?_) | refine zN2 (fun hlen => ?_))
        refine zCall (hf) ?_
        rintro _ rfl
        repeat (first | refine gG ?_ | refine zN1 (fun hlen => ?_) | refine zN2 (fun hlen => ?_))
        refine zCat ?_
        repeat (first | refine gG ?_ | refine zN1 (fun hlen => ?_) | refine zN2 (fun hlen => ?_))
        exact ⟨0 + 1, hk', by omega, x_wkd 0 ⟨rfl, by rw [hp1]; rfl, trivial⟩ rfl (by repeat (first | exact ag_refl | refine ag_upd rfl ?_ | refine ag_at rfl rfl ?_))⟩
      · have hk2 : types.length ≤ 0 := by simpa using h2
        rw [tyAt_none hk2] at *
        repeat (first | refine gG ?_ | refine zN1 (fun hlen => ?_) | refine zN2 (fun hlen => ?_))
        refine zCat ?_
        repeat (first | refine gG ?_ | refine zN1 (fun hlen => ?_) | refine zN2 (fun hlen => ?_))
        exact ⟨0 + 1, hk', by omega, x_wkd 0 ⟨rfl, by rw [hp1]; rfl, trivial⟩ rfl (by repeat (first | exact ag_refl | refine ag_upd rfl ?_ | refine ag_at rfl rfl ?_))⟩
    · have hp1 := prS_succ (types := types) ha (by omega)
      generalize prS names types k = px at *
      have d1 : decide (((k : Nat) : Int) > 0) = true := decide_eq_true (by omega)
      repeat (first | refine gG ?_ | refine zN1 (fun hlen => ?_) | refine zN2 (fun hlen => ?_))
      refine zCat ?_
      repeat (first | refine gG ?_ | refine zN1 (fun hlen => ?_) | refine zN2 (fun hlen => ?_))
      refine zCat ?_
      repeat (first | refine gG ?_ | refine zN1 (fun hlen => ?_) | refine zN2 (fun hlen => ?_))
      refine zCat ?_
      repeat (first | refine gG ?_ | refine zN1 (fun hlen => ?_) | refine zN2 (fun hlen => ?_))
      refine x_cond rfl (fun h2 => ?_) (fun h2 => ?_)
      · have hk2 : k < types.length := by simpa using h2
        obtain ⟨y, hy⟩ := nth hk2
        have hf := typeText_af y (by have := Y.size_mem (List.mem_of_getElem? hy); omega)
        rw [tyAt_some hy] at *
        generalize hax : Y.text y = ax at *
        repeat (first | refine gG ?_ | refine zN1 (fun hlen => ?_) | refine zN2 (fun hlen => ?_))
        refine zIx (k) (hk2) ?_
        repeat (first | refine gG ?_ | refine zN1 (fun hlen => ?_) | refine zN2 (fun hlen => ?_))
        refine zEl (Y.at hy) (Y.ts_len y) ?_
        obtain ⟨ka, ta, la⟩ := y
        repeat (first | refine gG ?_ | refine zN1 (fun hlen => ?_) | refine zN2 (fun hlen => ?_))
        refine zCall (hf) ?_
        rintro _ rfl
        repeat (first | refine gG ?_ | refine zN1 (fun hlen => ?_) | refine zN2 (fun hlen => ?_))
        refine zCat ?_
        repeat (first | refine gG ?_ | refine zN1 (fun hlen => ?_) | refine zN2 (fun hlen => ?_))
        exact ⟨k + 1, hk', by omega, x_wkd 0 ⟨rfl, by rw [hp1]; rfl, trivial⟩ rfl (by repeat (first | exact ag_refl | refine ag_upd rfl ?_ | refine ag_at rfl rfl ?_))⟩
      · have hk2 : types.length ≤ k := by simpa using h2
        rw [tyAt_none hk2] at *
        repeat (first | refine gG ?_ | refine zN1 (fun hlen => ?_) | refine zN2 (fun hlen => ?_))
        refine zCat ?_
        repeat (first | refine gG ?_ | refine zN1 (fun hlen => ?_) | refine zN2 (fun hlen => ?_))
        exact ⟨k + 1, hk', by omega, x_wkd 0 ⟨rfl, by rw [hp1]; rfl, trivial⟩ rfl (by repeat (first | exact ag_refl | refine ag_upd rfl ?_ | refine ag_at rfl rfl ?_))⟩
  · have hk' : k = names.length := by have : ¬ k < names.length := by simpa using h
                                      omega
    subst hk'
    have hpz := prS_size names types names.length
    generalize prS names types names.length = px at *
    repeat (first | refine gG ?_ | refine zN1 (fun hlen => ?_) | refine zN2 (fun hlen => ?_))
    refine zCat ?_
    repeat (first | refine gG ?_ | refine zN1 (fun hlen => ?_) | refine zN2 (fun hlen => ?_))
    first | refine zR ?_ | refine zQ ?_
    rfl
set_option maxRecDepth 100000 in
set_option maxHeartbeats 1000000 in
theorem description_af (m : Mk) (hm : m.size ≤ 1048576) : AF Tryd.prog 43 [m.t] (· = .lit (.string (descS m))) := by
  obtain ⟨nm, l⟩ := m
  have h0 : nm.size + Y.sizes l + 1 ≤ 1048576 := hm
  have hls := Y.len_sizes l
  have h1 := Y.lens l
  have hj := joinC_af (l.map Y.text) (by omega)
  have hs := joinS_size (l.map Y.text)
  unfold descS
  dsimp only
  by_cases hl0 : l.length = 0
  · rw [if_pos hl0]
    have d0 : decide (((l.length : Nat) : Int) = 0) = true := by rw [hl0]; rfl
    refine af_enter tok Tryd.func43 Tryd.ntmps43 Tryd.results43 rfl (by kernel_rfl) rfl rfl fun F hX => ?_
    repeat (first | refine gG ?_ | refine zN1 (fun hlen => ?_) | refine zN2 (fun hlen => ?_) | refine zAl (fun _ => ?_) | refine zBx (fun _ => ?_) | refine zAp (fun _ => ?_))
    first | refine zR ?_ | refine zQ ?_
    rfl
  · rw [if_neg hl0]
    have d0 : decide (((l.length : Nat) : Int) = 0) = false := decide_eq_false (by omega)
    refine af_enter tok Tryd.func43 Tryd.ntmps43 Tryd.results43 rfl (by kernel_rfl) rfl rfl fun F hX => ?_
    repeat (first | refine gG ?_ | refine zN1 (fun hlen => ?_) | refine zN2 (fun hlen => ?_) | refine zAl (fun _ => ?_) | refine zBx (fun _ => ?_) | refine zAp (fun _ => ?_))
    rename_i b0 hb0
    refine x_own 3 9 1 rfl rfl rfl rfl rfl ?_
    refine x_loop [3, 5, 15, 16, 17, 18, 19, 20, 21, 22, 23, 24] (fun y : Nat × Value => [(15, .c (.lit (.int .i64 y.1))), (3, .own 1 y.2)]) (fun y => [.box b0 59 [.c (.lit (.string nm)), .c (Y.row l)], .row y.2 9 1 ((l.take y.1).map Y.text).length (((l.take y.1).map Y.text).flatMap strTs)]) (fun y => y.1 ≤ l.length) (fun y => l.length - y.1) (0, .slice none 0 0) (Nat.zero_le _) ⟨rfl, rfl, trivial⟩ rfl ?_
    rintro ⟨i, v⟩ hk
    dsimp only at hk ⊢
    have hlk := len_mt Y.text hk
    repeat (first | refine gG ?_ | refine zN1 (fun hlen => ?_) | refine zN2 (fun hlen => ?_) | refine zAl (fun _ => ?_) | refine zBx (fun _ => ?_) | refine zAp (fun _ => ?_))
    refine x_cond rfl (fun h => ?_) (fun h => ?_)
    · have hk' : i < l.length := by simpa using h
      obtain ⟨a, ha⟩ := nth hk'
      have hfa := pageType_af a (by have := Y.size_mem (List.mem_of_getElem? ha); omega)
      have hsn := str_snoc Y.text ha
      have hsl := len_ms Y.text ha
      repeat (first | refine gG ?_ | refine zN1 (fun hlen => ?_) | refine zN2 (fun hlen => ?_) | refine zAl (fun _ => ?_) | refine zBx (fun _ => ?_) | refine zAp (fun _ => ?_))
      refine zIx (i) (hk') ?_
      repeat (first | refine gG ?_ | refine zN1 (fun hlen => ?_) | refine zN2 (fun hlen => ?_) | refine zAl (fun _ => ?_) | refine zBx (fun _ => ?_) | refine zAp (fun _ => ?_))
      refine zEl (Y.at ha) (Y.ts_len a) ?_
      generalize Y.text a = ax at *
      obtain ⟨ka, ta, la⟩ := a
      repeat (first | refine gG ?_ | refine zN1 (fun hlen => ?_) | refine zN2 (fun hlen => ?_) | refine zAl (fun _ => ?_) | refine zBx (fun _ => ?_) | refine zAp (fun _ => ?_))
      refine zCall (hfa) ?_
      rintro _ rfl
      repeat (first | refine gG ?_ | refine zN1 (fun hlen => ?_) | refine zN2 (fun hlen => ?_) | refine zAl (fun _ => ?_) | refine zBx (fun _ => ?_) | refine zAp (fun _ => ?_))
      exact ⟨(i + 1, _), hk', by simp only; omega, x_wkd 2 ⟨rfl, rfl, trivial⟩ (by simp only [hsn, hsl]; rfl) (by repeat (first | exact ag_refl | refine ag_upd rfl ?_ | refine ag_at rfl rfl ?_))⟩
    · have hk' : i = l.length := by have : ¬ i < l.length := by simpa using h
                                    omega
      subst hk'
      rw [List.take_length] at *
      clear hlk
      have hxl : (l.map Y.text).length = l.length := by simp
      refine x_frz hX 3 rfl rfl rfl rfl ?_
      generalize joinS (l.map Y.text) ⟨#[44, 32]⟩ = jx at *
      repeat (first | refine gG ?_ | refine zN1 (fun hlen => ?_) | refine zN2 (fun hlen => ?_) | refine zAl (fun _ => ?_) | refine zBx (fun _ => ?_) | refine zAp (fun _ => ?_))
      refine ac_draw [1, 1, 1, 1, 1, 1, 1, 1] [0, 1, 2, 3, 4, 5, 6, 7] (by kernel_rfl) (by kernel_rfl) ?_
      refine gW ?_
      apply w_q; (focus exact rfl); (focus exact rfl); focus (intro _; (refine zCat ?_); exact det_refl)
      refine gW ?_
      apply w_q; (focus exact rfl); (focus exact rfl); focus (intro _; (refine lo_call hj rfl (by repeat (first | exact rzs_nil | apply rzs_cons | exact rz_c | exact rz_nil rfl | apply rz_agg | exact rz_own rfl | apply rz_fn | exact rz_ptr rfl | apply rz_tup)) ?_; rintro _ rfl); exact det_refl)
      apply w_q; (focus exact rfl); (focus exact rfl); focus (intro _; (refine zCat ?_); exact det_refl)
      apply w_q; (focus exact rfl); (focus exact rfl); focus (intro _; (refine zCat ?_); exact det_refl)
      refine gW ?_
      refine w_nil ?_
      repeat (first | refine gG ?_ | refine zN1 (fun hlen => ?_) | refine zN2 (fun hlen => ?_) | refine zAl (fun _ => ?_) | refine zBx (fun _ => ?_) | refine zAp (fun _ => ?_))
      first | refine zR ?_ | refine zQ ?_
      rfl
end Go.Proofs.YtbfomgchjlkopaaDoor
