/-
  Texts of this proof, part 1: Mem Ysa Ysc Ysd Glob Own.
-/
import Derived.Below
import Derived.ChangeSame
import Derived.Deep.AppendLies
import Derived.Deep.AppendSrc
import Derived.Deep.Draws
import Derived.Laws.BitsAllLaws
import Derived.Laws.BitsLemmas
import Derived.Laws.BytesArg
import Derived.Laws.IdiomStrings
import Derived.Laws.OwnMore
import Derived.Lib.AppendStr
import Derived.Lib.AppendZerosOnto
import Derived.Lib.Hide
import Derived.Lib.ItoaNum
import Derived.Lib.MinMax
import Derived.Maps.AppendAt
import Derived.OwnWalk
import Derived.RegionTactic
import Derived.WalkKit
import Derived.WalkLawsBesides
import Derived.WalkSpells
import Derived.WideKeyEntry
namespace Go.Proofs.YthloejmmgdjimaaDoor
open Go.RowKit
theorem add_block (a : Addr) (n : Nat) : (a.add n).block = a.block := by unfold Addr.add; split <;> rfl
theorem add_add' (a : Addr) (i j : Nat) : (a.add i).add j = a.add (i + j) := by
  unfold Addr.add
  by_cases hi : i = 0 <;> by_cases hj : j = 0 <;> simp [hi, hj, Nat.add_assoc]
/-- The slice value '.slice A n c' holds the cells xs (sz cells an element) and lies below block B. -/
def Rd (w : World) (B sz : Nat) (A : Option Addr) (n : Nat) (xs : List Value) : Prop :=
  xs.length = n * sz ∧ (0 < n → ∃ ad, A = some ad ∧ ad.block < B ∧ ∀ j u, xs[j]? = some u → w.cell? (ad.add j) = some u)
section
variable {w w' : World} {B B' sz n : Nat} {A : Option Addr} {xs : List Value}
theorem Rd.nil : Rd w B sz A 0 [] := ⟨by simp, fun h => absurd h (by omega)⟩
theorem Rd.len (h : Rd w B 1 A n xs) : xs.length = n := by simpa using h.1
theorem Rd.get {k : Nat} (h : Rd w B 1 A n xs) (hk : k < n) : ∃ ad, A = some ad ∧ ad.block < B ∧ w.cell? (ad.add k) = some (xs[k]'(by rw [h.len]; exact hk)) := by
  obtain ⟨ad, e, hb, hc⟩ := h.2 (by omega)
  exact ⟨ad, e, hb, hc k _ (List.getElem?_eq_getElem _)⟩
theorem Rd.keep (h : Rd w B sz A n xs) (hk : ∀ p : Addr, p.block < B → w'.cell? p = w.cell? p) : Rd w' B sz A n xs := by
  refine ⟨h.1, fun hn => ?_⟩
  obtain ⟨ad, e, hb, hc⟩ := h.2 hn
  exact ⟨ad, e, hb, fun j u hu => (hk _ (by rw [add_block]; exact hb)).trans (hc j u hu)⟩
theorem Rd.below (h : Rd w B sz A n xs) (hb : Below B w w') : Rd w' B sz A n xs := h.keep fun _ hp => hb.cell hp
theorem Rd.drewN (h : Rd w B sz A n xs) (k : Nat) : Rd (w.drewN k) B sz A n xs := h
theorem Rd.take (h : Rd w B sz A n xs) {k : Nat} (hk : k ≤ n) : Rd w B sz A k (xs.take (k * sz)) := by
  refine ⟨by rw [List.length_take, h.1]; exact Nat.min_eq_left (Nat.mul_le_mul_right _ hk), fun hn => ?_⟩
  obtain ⟨ad, e, hb, hc⟩ := h.2 (by omega)
  refine ⟨ad, e, hb, fun j u hu => hc j u ?_⟩
  rw [List.getElem?_take] at hu
  split at hu
  · exact hu
  · cases hu
theorem Rd.drop (h : Rd w B sz A n xs) {k cap : Nat} (hk : k ≤ n) (hc : n ≤ cap) :
    Rd w B sz (if cap = k then A else A.map (·.add (k * sz))) (n - k) (xs.drop (k * sz)) := by
  refine ⟨by rw [List.length_drop, h.1, Nat.sub_mul], fun hn => ?_⟩
  obtain ⟨ad, rfl, hb, hcell⟩ := h.2 (by omega)
  rw [if_neg (by omega)]
  refine ⟨ad.add (k * sz), rfl, by rw [add_block]; exact hb, fun j u hu => ?_⟩
  rw [add_add']
  exact hcell _ u (by rw [← hu, List.getElem?_drop])
theorem Rd.of_own {base : Nat} {e : TypeId} {c : Nat} (h : w.ownsRow base e sz (.slice A n c) n xs) : Rd w w.heap.size sz A n xs := by
  refine ⟨h.1, fun hn => ?_⟩
  rcases h.2 with ⟨_, h0⟩ | ⟨g, cap, cur, hv, _, hg, _⟩
  · omega
  · have hA : A = some ⟨g, 0, none⟩ := by injection hv
    subst hA
    exact ⟨_, rfl, (Array.getElem?_eq_some_iff.1 hg).1, h.cells (g := g) rfl⟩
end
/-- a new block just made, asq a slice of all its cells (elements of one cell) -/
theorem Rd.fresh (w : World) (t : TypeId) (cs : Array Value) : Rd (w.alloc (.cells cs t)) (w.heap.size + 1) 1 (some ⟨w.heap.size, 0, none⟩) cs.size cs.toList := by
  refine ⟨by simp, fun _ => ⟨_, rfl, by simp, fun j u hu => ?_⟩⟩
  have hadd : (⟨w.heap.size, 0, none⟩ : Addr).add j = ⟨w.heap.size, j, none⟩ := by unfold Addr.add; split <;> simp_all
  rw [hadd, cell_of_row _ w.heap.size j cs t (0, 0) (heap_alloc_new w _)]
  simpa using hu
theorem Rd.box (w : World) (t : TypeId) (x : Value) : Rd (w.alloc (.cells #[x] t)) (w.heap.size + 1) 1 (some ⟨w.heap.size, 0, none⟩) 1 [x] := Rd.fresh w t #[x]
theorem own_shape {w : World} {base sz n : Nat} {e : TypeId} {v : Value} {xs : List Value} (h : w.ownsRow base e sz v n xs) : ∃ A c, v = .slice A n c ∧ n ≤ c ∧ c ≤ maxLen := by
  rcases h.2 with ⟨rfl, rfl⟩ | ⟨g, cap, cur, rfl, _, _, h1, h2, _⟩
  · exact ⟨none, 0, rfl, Nat.le_refl _, Nat.zero_le _⟩
  · exact ⟨_, _, rfl, h1, h2⟩
/-- each of the values is a row of its own -/
def OwnAll (w : World) (base : Nat) (e : TypeId) : List Value → List (List Value) → Prop
  | [], [] => True
  | p :: ps, x :: xs => w.ownsRow base e 1 p x.length x ∧ OwnAll w base e ps xs
  | _, _ => False
theorem OwnAll.len {w : World} {base : Nat} {e : TypeId} : ∀ {ps : List Value} {xs : List (List Value)}, OwnAll w base e ps xs → ps.length = xs.length
  | [], [], _ => rfl
  | _ :: _, _ :: _, h => by simp [OwnAll.len h.2]
  | [], _ :: _, h => h.elim
  | _ :: _, [], h => h.elim
theorem OwnAll.map {w w' : World} {base base' : Nat} {e : TypeId} (f : ∀ p (x : List Value), w.ownsRow base e 1 p x.length x → w'.ownsRow base' e 1 p x.length x) : ∀ {ps : List Value} {xs : List (List Value)}, OwnAll w base e ps xs → OwnAll w' base' e ps xs
  | [], [], _ => trivial
  | _ :: _, _ :: _, h => ⟨f _ _ h.1, OwnAll.map f h.2⟩
  | [], _ :: _, h => h.elim
  | _ :: _, [], h => h.elim
theorem OwnAll.drewN {w : World} {base : Nat} {e : TypeId} (n : Nat) : ∀ {ps : List Value} {xs : List (List Value)}, OwnAll w base e ps xs → OwnAll (w.drewN n) base e ps xs :=
  fun h => OwnAll.map (w := w) (w' := w.drewN n) (fun p x (hp : w.ownsRow base e 1 p x.length x) => (hp : (w.drewN n).ownsRow base e 1 p x.length x)) h
theorem OwnAll.get {w : World} {base : Nat} {e : TypeId} : ∀ {ps : List Value} {xs : List (List Value)}, OwnAll w base e ps xs → ∀ k (hp : k < ps.length) (hx : k < xs.length), w.ownsRow base e 1 ps[k] (xs[k]).length xs[k]
  | [], _, _, _, hp, _ => by simp at hp
  | _ :: _, [], h, _, _, _ => h.elim
  | _ :: _, _ :: _, h, 0, _, _ => h.1
  | _ :: _, _ :: _, h, k + 1, hp, hx => by simpa using OwnAll.get h.2 k (by simpa using hp) (by simpa using hx)
def bv (c : UInt8) : Value := .int .u8 (c.toNat : Int)
def bvs (l : List UInt8) : List Value := l.map bv
theorem bvs_len (l : List UInt8) : (bvs l).length = l.length := by simp [bvs]
/-- each of the values is a slice that reads asq the bytes -/
def RdAll (w : World) (B : Nat) (vs : List Value) (xss : List (List UInt8)) : Prop :=
  vs.length = xss.length ∧ ∀ k (h : k < xss.length), ∃ A c, vs[k]? = some (.slice A (xss[k]).length c) ∧ (xss[k]).length ≤ c ∧ Rd w B 1 A (xss[k]).length (bvs xss[k])
theorem RdAll.keep {w w' : World} {B : Nat} {vs : List Value} {xss : List (List UInt8)} (h : RdAll w B vs xss) (hk : ∀ p : Addr, p.block < B → w'.cell? p = w.cell? p) : RdAll w' B vs xss := by
  refine ⟨h.1, fun k hk' => ?_⟩
  obtain ⟨A, c, h1, h2, h3⟩ := h.2 k hk'
  exact ⟨A, c, h1, h2, h3.keep hk⟩
theorem RdAll.below {w w' : World} {B : Nat} {vs : List Value} {xss : List (List UInt8)} (h : RdAll w B vs xss) (hb : Below B w w') : RdAll w' B vs xss := h.keep fun _ hp => hb.cell hp
theorem OwnAll.reads {w : World} {base : Nat} {e : TypeId} {ps : List Value} {xss : List (List UInt8)} (h : OwnAll w base e ps (xss.map bvs)) : RdAll w w.heap.size ps xss := by
  have hl := h.len
  rw [List.length_map] at hl
  refine ⟨hl, fun k hk => ?_⟩
  have hg := h.get k (by omega) (by simpa using hk)
  simp only [List.getElem_map, bvs_len] at hg
  obtain ⟨A, c, e1, h1, _⟩ := own_shape hg
  rw [e1] at hg
  exact ⟨A, c, by rw [List.getElem?_eq_getElem (by omega), e1], h1, Rd.of_own hg⟩
end Go.Proofs.YthloejmmgdjimaaDoor
namespace Go.Proofs.YthloejmmgdjimaaDoor
structure Se where
  kind : Int
  br : List (Int × Int)
instance : Inhabited Se := ⟨⟨0, []⟩⟩
/-- the state behind a message -/
def nxS : List (Int × Int) → Int → Int
  | [], _ => -1
  | (m, x) :: l, k => if m = k then x else nxS l k
def stAt (l : List Se) (i : Int) : Se := if 0 ≤ i then (l[i.toNat]?).getD ⟨0, []⟩ else ⟨0, []⟩
theorem stAt_nat {l : List Se} {i : Nat} {s : Se} (h : l[i]? = some s) : stAt l (i : Int) = s := by
  unfold stAt
  rw [if_pos (by omega), Int.toNat_natCast, h]; rfl
def brErr (n : Int) : Int → List (Int × Int) → Int
  | _, [] => 0
  | last, (m, x) :: l => if m < 0 ∨ 20 < m ∨ x < 0 ∨ n ≤ x then 1 else if m ≤ last then 3 else brErr n m l
def stErr (n : Int) (s : Se) : Int := if s.kind < 1 ∨ 3 < s.kind ∨ decide (s.kind = 3) ≠ decide (s.br.length = 0) then 3 else if 6 < s.br.length then 2 else brErr n (-1) s.br
def seErrL (n : Int) : List Se → Int
  | [] => 0
  | s :: l => if stErr n s ≠ 0 then stErr n s else seErrL n l
def seErr (l : List Se) : Int := if l.length < 1 ∨ 16 < l.length then 2 else seErrL (l.length : Nat) l
structure SOk (n : Int) (s : Se) : Prop where
  k1 : 1 ≤ s.kind
  k3 : s.kind ≤ 3
  e3 : s.kind = 3 → s.br = []
  len : s.br.length ≤ 6
  rng : ∀ z ∈ s.br, 0 ≤ z.1 ∧ z.1 ≤ 20 ∧ 0 ≤ z.2 ∧ z.2 < n
  srt : s.br.Pairwise (fun a b => a.1 < b.1)
structure LOk (l : List Se) : Prop where
  n1 : 1 ≤ l.length
  n16 : l.length ≤ 16
  st : ∀ s ∈ l, SOk (l.length : Nat) s
theorem br_ok {n : Int} : ∀ (l : List (Int × Int)) (last : Int), brErr n last l = 0 → (∀ z ∈ l, 0 ≤ z.1 ∧ z.1 ≤ 20 ∧ 0 ≤ z.2 ∧ z.2 < n) ∧ (∀ z ∈ l, last < z.1) ∧ l.Pairwise (fun a b => a.1 < b.1)
  | [], _, _ => ⟨fun _ h => by simp at h, fun _ h => by simp at h, .nil⟩
  | (m, x) :: l, last, h => by
    unfold brErr at h
    split at h
    · simp at h
    · split at h
      · simp at h
      · have ⟨h1, h2, h3⟩ := br_ok l m h
        refine ⟨fun z hz => ?_, fun z hz => ?_, List.pairwise_cons.2 ⟨h2, h3⟩⟩
        · rcases List.mem_cons.1 hz with rfl | hz
          · dsimp only; omega
          · exact h1 z hz
        · rcases List.mem_cons.1 hz with rfl | hz
          · dsimp only; omega
          · have := h2 z hz; omega
theorem sok_of {n : Int} {s : Se} (h : stErr n s = 0) : SOk n s := by
  unfold stErr at h
  split at h
  · simp at h
  · rename_i h1
    split at h
    · simp at h
    · have ⟨a, _, c⟩ := br_ok _ _ h
      refine ⟨by omega, by omega, fun e => ?_, by omega, a, c⟩
      have h2 : ¬ (decide (s.kind = 3) ≠ decide (s.br.length = 0)) := fun h => h1 (.inr (.inr h))
      rw [decide_eq_true e] at h2
      have : decide (s.br.length = 0) = true := by
        cases hh : decide (s.br.length = 0) with
        | true => rfl
        | false => exact absurd (by rw [hh]; decide) h2
      exact List.length_eq_zero_iff.1 (of_decide_eq_true this)
theorem seL_ok {n : Int} : ∀ {l : List Se}, seErrL n l = 0 → ∀ s ∈ l, stErr n s = 0
  | [], _, s, hs => by simp at hs
  | t :: l, h, s, hs => by
    unfold seErrL at h
    split at h
    · rename_i h1; exact absurd h h1
    · rename_i h1
      rcases List.mem_cons.1 hs with rfl | hs
      · omega
      · exact seL_ok h s hs
theorem lok_of {l : List Se} (h : seErr l = 0) : LOk l := by
  unfold seErr at h
  split at h
  · simp at h
  · exact ⟨by omega, by omega, fun s hs => sok_of (seL_ok h s hs)⟩
theorem LOk.at {l : List Se} (h : LOk l) {i : Int} (h0 : 0 ≤ i) (h1 : i < (l.length : Nat)) : SOk (l.length : Nat) (stAt l i) := by
  unfold stAt
  rw [if_pos h0, List.getElem?_eq_getElem (by omega)]
  exact h.st _ (List.getElem_mem _)
theorem nx_mem {l : List (Int × Int)} (hs : l.Pairwise (fun a b => a.1 < b.1)) {z : Int × Int} (hz : z ∈ l) : nxS l z.1 = z.2 := by
  induction l with
  | nil => simp at hz
  | cons p l ih =>
    obtain ⟨h1, h2⟩ := List.pairwise_cons.1 hs
    obtain ⟨m, x⟩ := p
    unfold nxS
    rcases List.mem_cons.1 hz with rfl | hz
    · rw [if_pos rfl]
    · have := h1 z hz
      dsimp only at this
      rw [if_neg (by omega)]
      exact ih h2 hz
theorem nx_nn : ∀ {l : List (Int × Int)} {k : Int}, 0 ≤ nxS l k → ∃ z ∈ l, z.1 = k ∧ z.2 = nxS l k
  | [], k, h => by unfold nxS at h; omega
  | (m, x) :: l, k, h => by
    unfold nxS at h ⊢
    split
    · rename_i e
      exact ⟨_, List.mem_cons_self, e, rfl⟩
    · rename_i e
      rw [if_neg e] at h
      obtain ⟨z, hz, h1, h2⟩ := nx_nn h
      exact ⟨z, List.mem_cons_of_mem _ hz, h1, h2⟩
theorem nx_lt {n : Int} (hn : 0 < n) : ∀ {l : List (Int × Int)} {k : Int}, (∀ z ∈ l, 0 ≤ z.2 ∧ z.2 < n) → -1 ≤ nxS l k ∧ nxS l k < n
  | [], k, _ => by unfold nxS; omega
  | (m, x) :: l, k, h => by
    unfold nxS
    split
    · have := h _ List.mem_cons_self
      dsimp only at this; omega
    · exact nx_lt hn (fun z hz => h z (List.mem_cons_of_mem _ hz))
/-- what one pair of states asks of the pairs behind it -/
def Good (a b : List Se) (R : Int × Int → Prop) (p : Int × Int) : Prop :=
  (stAt a p.1).kind = (stAt b p.2).kind ∧
  ((stAt a p.1).kind = 1 → ∀ z ∈ (stAt a p.1).br, 0 ≤ nxS (stAt b p.2).br z.1) ∧
  ((stAt a p.1).kind = 2 → ∀ z ∈ (stAt b p.2).br, 0 ≤ nxS (stAt a p.1).br z.1) ∧
  ∀ z ∈ (stAt a p.1).br, 0 ≤ nxS (stAt b p.2).br z.1 → R (z.2, nxS (stAt b p.2).br z.1)
def SubP (a b : List Se) (p : Int × Int) : Prop := ∃ R : Int × Int → Prop, R p ∧ ∀ q, R q → Good a b R q
theorem Good.mono {a b : List Se} {R S : Int × Int → Prop} (h : ∀ q, R q → S q) {p : Int × Int} (g : Good a b R p) : Good a b S p := ⟨g.1, g.2.1, g.2.2.1, fun z hz hn => h _ (g.2.2.2 z hz hn)⟩
theorem sub_good {a b : List Se} {p : Int × Int} (h : SubP a b p) : Good a b (SubP a b) p := by
  obtain ⟨R, hR, hg⟩ := h
  exact (hg p hR).mono fun q hq => ⟨R, hq, hg⟩
noncomputable def subB (a b : List Se) : Bool := @decide (SubP a b (0, 0)) (Classical.propDecidable _)
theorem subB_t {a b : List Se} : subB a b = true ↔ SubP a b (0, 0) := by unfold subB; exact @decide_eq_true_iff _ (Classical.propDecidable _)
theorem subB_f {a b : List Se} (h : ¬ SubP a b (0, 0)) : subB a b = false := by
  cases e : subB a b with
  | false => rfl
  | true => exact absurd (subB_t.1 e) h
/-- the search that package session makes -/
structure SInv (a b : List Se) (Q : List (Int × Int)) (i : Nat) : Prop where
  hd : (0, 0) ∈ Q
  rg : ∀ p ∈ Q, 0 ≤ p.1 ∧ p.1 < (a.length : Nat) ∧ 0 ≤ p.2 ∧ p.2 < (b.length : Nat)
  nd : Q.Nodup
  need : ∀ p ∈ Q, ∀ R : Int × Int → Prop, R (0, 0) → (∀ q, R q → Good a b R q) → R p
  dn : ∀ k, k < i → ∀ p, Q[k]? = some p → Good a b (· ∈ Q) p
theorem sinv_end {a b : List Se} {Q : List (Int × Int)} (h : SInv a b Q Q.length) : subB a b = true := by
  refine subB_t.2 ⟨(· ∈ Q), h.hd, fun q hq => ?_⟩
  obtain ⟨k, hk⟩ := List.getElem?_of_mem hq
  exact h.dn k (List.getElem?_eq_some_iff.1 hk).1 q hk
theorem sinv_bad {a b : List Se} {Q : List (Int × Int)} {i : Nat} (h : SInv a b Q i) {p : Int × Int} (hp : p ∈ Q) (hb : ∀ R, ¬ Good a b R p) : subB a b = false := by
  refine subB_f fun hs => ?_
  obtain ⟨R, hR, hg⟩ := hs
  exact hb R (hg p (h.need p hp R hR hg))
theorem nodup_len {n : Nat} : ∀ (l : List Nat), l.Nodup → (∀ x ∈ l, x < n) → l.length ≤ n := by
  induction n with
  | zero =>
    intro l _ h
    cases l with
    | nil => simp
    | cons a l => exact absurd (h a List.mem_cons_self) (by omega)
  | succ n ih =>
    intro l hl h
    have h1 := ih (l.erase n) (hl.erase n) (fun x hx => by
      have h2 := h x (List.mem_of_mem_erase hx)
      have h3 : x ≠ n := fun e => by
        rw [e] at hx
        exact absurd hx (by rw [List.Nodup.mem_erase_iff hl]; exact fun h => h.1 rfl)
      omega)
    by_cases hn : n ∈ l
    · rw [List.length_erase_of_mem hn] at h1; omega
    · rw [List.erase_of_not_mem hn] at h1; omega
theorem SInv.len {a b : List Se} {Q : List (Int × Int)} {i : Nat} (h : SInv a b Q i) (ha : a.length ≤ 16) (hb : b.length ≤ 16) : Q.length ≤ 256 := by
  have h1 := nodup_len (n := 256) (Q.map fun p => p.1.toNat * 16 + p.2.toNat) (by
    refine List.Pairwise.map _ (fun p q hpq => hpq) ?_
    refine List.Pairwise.imp_of_mem ?_ h.nd
    rintro ⟨p1, p2⟩ ⟨q1, q2⟩ hp hq hne e
    have h1 := h.rg _ hp
    have h2 := h.rg _ hq
    dsimp only at h1 h2 e
    exact hne (by rw [show p1 = q1 by omega, show p2 = q2 by omega])) (fun x hx => by
    obtain ⟨p, hp, rfl⟩ := List.mem_map.1 hx
    have := h.rg _ hp
    omega)
  rwa [List.length_map] at h1
end Go.Proofs.YthloejmmgdjimaaDoor
namespace Go.Proofs.YthloejmmgdjimaaDoor
/-- rows alike: the same messages, states behind them alike -/
def Al (R : Int → Int → Prop) : List (Int × Int) → List (Int × Int) → Prop
  | [], [] => True
  | p :: l, q :: m => p.1 = q.1 ∧ R p.2 q.2 ∧ Al R l m
  | _, _ => False
def E (l : List Se) : Nat → Int → Int → Prop
  | 0, _, _ => True
  | r + 1, i, j => (stAt l i).kind = (stAt l j).kind ∧ Al (E l r) (stAt l i).br (stAt l j).br
theorem Al.imp {R S : Int → Int → Prop} : ∀ {l m : List (Int × Int)}, (∀ p ∈ l, ∀ q ∈ m, R p.2 q.2 → S p.2 q.2) → Al R l m → Al S l m
  | [], [], _, h => h
  | p :: l, q :: m, hi, h => ⟨h.1, hi p List.mem_cons_self q List.mem_cons_self h.2.1, Al.imp (fun p hp q hq => hi p (List.mem_cons_of_mem _ hp) q (List.mem_cons_of_mem _ hq)) h.2.2⟩
  | [], _ :: _, _, h => h
  | _ :: _, [], _, h => h
theorem Al.rf {R : Int → Int → Prop} (hr : ∀ x, R x x) : ∀ l : List (Int × Int), Al R l l
  | [] => trivial
  | _ :: l => ⟨rfl, hr _, Al.rf hr l⟩
theorem Al.sy {R : Int → Int → Prop} (hr : ∀ x y, R x y → R y x) : ∀ {l m : List (Int × Int)}, Al R l m → Al R m l
  | [], [], h => h
  | _ :: _, _ :: _, h => ⟨h.1.symm, hr _ _ h.2.1, Al.sy hr h.2.2⟩
  | [], _ :: _, h => h
  | _ :: _, [], h => h
theorem Al.tr {R : Int → Int → Prop} (hr : ∀ x y z, R x y → R y z → R x z) : ∀ {l m k : List (Int × Int)}, Al R l m → Al R m k → Al R l k
  | [], [], _, _, h => h
  | _ :: _, _ :: _, _ :: _, h, h' => ⟨h.1.trans h'.1, hr _ _ _ h.2.1 h'.2.1, Al.tr hr h.2.2 h'.2.2⟩
  | [], _ :: _, _, h, _ => h.elim
  | _ :: _, [], _, h, _ => h.elim
  | _ :: _, _ :: _, [], _, h => h.elim
theorem Al.nx {R : Int → Int → Prop} : ∀ {l m : List (Int × Int)} (k : Int), Al R l m → (nxS l k = -1 ∧ nxS m k = -1) ∨ (R (nxS l k) (nxS m k) ∧ (∃ z ∈ l, z.2 = nxS l k) ∧ ∃ z ∈ m, z.2 = nxS m k)
  | [], [], _, _ => .inl ⟨rfl, rfl⟩
  | (a, x) :: l, (b, y) :: m, k, h => by
    obtain ⟨h1, h2, h3⟩ := h
    dsimp only at h1 h2
    subst h1
    unfold nxS
    by_cases e : a = k
    · rw [if_pos e, if_pos e]
      exact .inr ⟨h2, ⟨_, List.mem_cons_self, rfl⟩, ⟨_, List.mem_cons_self, rfl⟩⟩
    · rw [if_neg e, if_neg e]
      rcases Al.nx k h3 with h | ⟨h, ⟨z, hz, e1⟩, ⟨w, hw, e2⟩⟩
      · exact .inl h
      · exact .inr ⟨h, ⟨z, List.mem_cons_of_mem _ hz, e1⟩, ⟨w, List.mem_cons_of_mem _ hw, e2⟩⟩
  | [], _ :: _, _, h => h.elim
  | _ :: _, [], _, h => h.elim
theorem E.rf (l : List Se) : ∀ r i, E l r i i
  | 0, _ => trivial
  | r + 1, _ => ⟨rfl, Al.rf (E.rf l r) _⟩
theorem E.sy (l : List Se) : ∀ r {i j}, E l r i j → E l r j i
  | 0, _, _, _ => trivial
  | r + 1, _, _, h => ⟨h.1.symm, Al.sy (fun _ _ h => E.sy l r h) h.2⟩
theorem E.tr (l : List Se) : ∀ r {i j k}, E l r i j → E l r j k → E l r i k
  | 0, _, _, _, _, _ => trivial
  | r + 1, _, _, _, h, h' => ⟨h.1.trans h'.1, Al.tr (R := E l r) (fun _ _ _ h h' => E.tr l r h h') h.2 h'.2⟩
theorem E.dn (l : List Se) : ∀ r {i j}, E l (r + 1) i j → E l r i j
  | 0, _, _, _ => trivial
  | r + 1, _, _, h => ⟨h.1, Al.imp (fun _ _ _ _ h => E.dn l r h) h.2⟩
theorem E.le (l : List Se) {r s : Nat} (h : r ≤ s) {i j : Int} (he : E l s i j) : E l r i j := by
  induction s with
  | zero => rwa [show r = 0 by omega]
  | succ s ih =>
    by_cases e : r = s + 1
    · rwa [e]
    · exact ih (by omega) (E.dn l s he)
def inR (l : List Se) (i : Int) : Prop := 0 ≤ i ∧ i < (l.length : Nat)
theorem LOk.nx {l : List Se} (h : LOk l) {i : Int} (hi : inR l i) {z : Int × Int} (hz : z ∈ (stAt l i).br) : inR l z.2 := ⟨((h.at hi.1 hi.2).rng z hz).2.2.1, ((h.at hi.1 hi.2).rng z hz).2.2.2⟩
/-- once a round changes nothing, no later one does -/
theorem E.stay {l : List Se} (hl : LOk l) {s : Nat} (h : ∀ i j, inR l i → inR l j → E l s i j → E l (s + 1) i j) : ∀ k i j, inR l i → inR l j → E l s i j → E l (s + k) i j
  | 0, _, _, _, _, he => he
  | k + 1, i, j, hi, hj, he => by
    have h1 := h i j hi hj he
    exact ⟨h1.1, Al.imp (fun p hp q hq hpq => E.stay hl h k p.2 q.2 (hl.nx hi hp) (hl.nx hj hq) hpq) h1.2⟩
/-- who stands first among those like it -/
def fst_ (l : List Se) (r : Nat) (i : Nat) : Prop := ∀ j, j < i → ¬ E l r (j : Nat) (i : Nat)
noncomputable def fstB (l : List Se) (r : Nat) (i : Nat) : Bool := @decide (fst_ l r i) (Classical.propDecidable _)
theorem fstB_t {l : List Se} {r i : Nat} : fstB l r i = true ↔ fst_ l r i := by unfold fstB; exact @decide_eq_true_iff _ (Classical.propDecidable _)
theorem countP_lt {α : Type} {p q : α → Bool} : ∀ {l : List α}, (∀ x ∈ l, p x = true → q x = true) → ∀ x ∈ l, q x = true → p x = false → l.countP p < l.countP q
  | [], _, x, hx, _, _ => by simp at hx
  | a :: l, h, x, hx, hq, hp => by
    have hm : l.countP p ≤ l.countP q := List.countP_mono_left (fun x hx => h x (List.mem_cons_of_mem _ hx))
    rw [List.countP_cons, List.countP_cons]
    rcases List.mem_cons.1 hx with rfl | hx
    · rw [hq, hp]; simp; omega
    · have := countP_lt (fun x hx => h x (List.mem_cons_of_mem _ hx)) x hx hq hp
      have ha := h a List.mem_cons_self
      cases e : p a with
      | false => simp; split <;> omega
      | true => rw [ha e]; simp; omega
theorem first_rep (l : List Se) (r : Nat) : ∀ i : Nat, ∃ f, f ≤ i ∧ fst_ l r f ∧ E l r (f : Nat) (i : Nat) := by
  intro i
  induction i using Nat.strongRecOn with
  | _ i ih =>
    by_cases h : fst_ l r i
    · exact ⟨i, Nat.le_refl _, h, E.rf l r _⟩
    · obtain ⟨j, hj, he⟩ : ∃ j, j < i ∧ E l r (j : Nat) (i : Nat) := Classical.byContradiction fun hn => h fun j hj he => hn ⟨j, hj, he⟩
      obtain ⟨f, hf, h1, h2⟩ := ih j hj
      exact ⟨f, by omega, h1, E.tr l r h2 he⟩
theorem stable_of {l : List Se} {r : Nat} (h : ∀ i, i < l.length → fst_ l (r + 1) i → fst_ l r i) {i j : Int} (hi : inR l i) (hj : inR l j) (he : E l r i j) : E l (r + 1) i j := by
  obtain ⟨i0, rfl⟩ : ∃ i0 : Nat, i = (i0 : Int) := ⟨i.toNat, by have := hi.1; omega⟩
  obtain ⟨j0, rfl⟩ : ∃ j0 : Nat, j = (j0 : Int) := ⟨j.toNat, by have := hj.1; omega⟩
  obtain ⟨f, hf, f1, f2⟩ := first_rep l (r + 1) i0
  obtain ⟨g, hg, g1, g2⟩ := first_rep l (r + 1) j0
  have hi2 := hi.2
  have hj2 := hj.2
  have hf' := h f (by omega) f1
  have hg' := h g (by omega) g1
  have hfg : E l r (f : Nat) (g : Nat) := E.tr l r (E.dn l r f2) (E.tr l r he (E.sy l r (E.dn l r g2)))
  have e : f = g := by
    rcases Nat.lt_trichotomy f g with h | h | h
    · exact absurd hfg (hg' f h)
    · exact h
    · exact absurd (E.sy l r hfg) (hf' g h)
  subst e
  exact E.tr l (r + 1) (E.sy l (r + 1) f2) g2
theorem some_stable {l : List Se} (hn : 1 ≤ l.length) : ∀ r, (∃ s, s < r ∧ ∀ i j, inR l i → inR l j → E l s i j → E l (s + 1) i j) ∨ r + 1 ≤ (List.range l.length).countP (fstB l r)
  | 0 => .inr (by
    have h : 0 < (List.range l.length).countP (fstB l 0) := List.countP_pos_iff.2 ⟨0, List.mem_range.2 hn, fstB_t.2 fun j hj => absurd hj (by omega)⟩
    omega)
  | r + 1 => by
    rcases some_stable hn r with ⟨s, hs, h⟩ | h
    · exact .inl ⟨s, by omega, h⟩
    · by_cases hst : ∀ i, i < l.length → fst_ l (r + 1) i → fst_ l r i
      · exact .inl ⟨r, by omega, fun i j hi hj he => stable_of hst hi hj he⟩
      · obtain ⟨i, hi, h1, h2⟩ : ∃ i, i < l.length ∧ fst_ l (r + 1) i ∧ ¬ fst_ l r i := Classical.byContradiction fun hn => hst fun i hi h1 => Classical.byContradiction fun h2 => hn ⟨i, hi, h1, h2⟩
        have := countP_lt (p := fstB l r) (q := fstB l (r + 1)) (l := List.range l.length) (fun x _ hx => fstB_t.2 fun j hj he => fstB_t.1 hx j hj (E.dn l r he)) i (List.mem_range.2 hi) (fstB_t.2 h1) (by
          cases e : fstB l r i with
          | false => rfl
          | true => exact absurd (fstB_t.1 e) h2)
        exact .inr (by omega)
theorem E.fix {l : List Se} (hl : LOk l) {i j : Int} (hi : inR l i) (hj : inR l j) (he : E l l.length i j) : E l (l.length + 1) i j := by
  rcases some_stable hl.n1 l.length with ⟨s, hs, h⟩ | h
  · have := E.stay hl h (l.length + 1 - s) i j hi hj (E.le l (by omega) he)
    rwa [show s + (l.length + 1 - s) = l.length + 1 by omega] at this
  · have := List.countP_le_length (p := fstB l l.length) (l := List.range l.length)
    rw [List.length_range] at this
    omega
def bisP (l : List Se) (i j : Int) : Prop := SubP l l (i, j) ∧ SubP l l (j, i)
theorem al_of {K : Int → Int → Prop} : ∀ {x y : List (Int × Int)}, x.Pairwise (fun a b => a.1 < b.1) → y.Pairwise (fun a b => a.1 < b.1) → (∀ z ∈ x, 0 ≤ nxS y z.1) → (∀ z ∈ y, 0 ≤ nxS x z.1) → (∀ z ∈ x, K z.2 (nxS y z.1)) → Al K x y
  | [], [], _, _, _, _, _ => trivial
  | [], q :: m, _, _, _, h2, _ => by
    have := h2 q List.mem_cons_self
    unfold nxS at this; omega
  | p :: l, [], _, _, h1, _, _ => by
    have := h1 p List.mem_cons_self
    unfold nxS at this; omega
  | (a, s) :: x, (b, t) :: y, hx, hy, h1, h2, hk => by
    obtain ⟨x1, x2⟩ := List.pairwise_cons.1 hx
    obtain ⟨y1, y2⟩ := List.pairwise_cons.1 hy
    have hge : ∀ {z : Int × Int} {c : Int} {t : Int} {l : List (Int × Int)}, (∀ w ∈ l, c < w.1) → 0 ≤ nxS ((c, t) :: l) z.1 → c ≤ z.1 := fun {z c t l} hl h => by
      obtain ⟨w, hw, e, _⟩ := nx_nn h
      rcases List.mem_cons.1 hw with rfl | hw
      · dsimp only at e; omega
      · have := hl w hw; omega
    have hab : b ≤ a := hge (z := (a, s)) y1 (h1 _ List.mem_cons_self)
    have hba : a ≤ b := hge (z := (b, t)) x1 (h2 _ List.mem_cons_self)
    obtain rfl : a = b := by omega
    have e1 : nxS ((a, t) :: y) a = t := by unfold nxS; rw [if_pos rfl]
    have ex : ∀ z ∈ x, nxS ((a, t) :: y) z.1 = nxS y z.1 := fun z hz => by
      have := x1 z hz
      dsimp only at this
      conv => lhs; unfold nxS
      rw [if_neg (by omega)]
    have ey : ∀ z ∈ y, nxS ((a, s) :: x) z.1 = nxS x z.1 := fun z hz => by
      have := y1 z hz
      dsimp only at this
      conv => lhs; unfold nxS
      rw [if_neg (by omega)]
    have k0 := hk _ List.mem_cons_self
    dsimp only at k0
    rw [e1] at k0
    exact ⟨rfl, k0, al_of x2 y2 (fun z hz => by rw [← ex z hz]; exact h1 z (List.mem_cons_of_mem _ hz)) (fun z hz => by rw [← ey z hz]; exact h2 z (List.mem_cons_of_mem _ hz)) (fun z hz => by rw [← ex z hz]; exact hk z (List.mem_cons_of_mem _ hz))⟩
theorem bis_step {l : List Se} (hl : LOk l) {i j : Int} (hi : inR l i) (hj : inR l j) (h : bisP l i j) : (stAt l i).kind = (stAt l j).kind ∧ Al (fun x y => inR l x ∧ inR l y ∧ bisP l x y) (stAt l i).br (stAt l j).br := by
  have g1 := sub_good h.1
  have g2 := sub_good h.2
  have si := hl.at hi.1 hi.2
  have sj := hl.at hj.1 hj.2
  have hk : (stAt l i).kind = (stAt l j).kind := g1.1
  refine ⟨hk, ?_⟩
  have ha : ∀ z ∈ (stAt l i).br, 0 ≤ nxS (stAt l j).br z.1 := fun z hz => by
    by_cases e1 : (stAt l i).kind = 1
    · exact g1.2.1 e1 z hz
    · by_cases e2 : (stAt l i).kind = 2
      · exact g2.2.2.1 (by dsimp only; omega) z hz
      · have := si.e3 (by have := si.k1; have := si.k3; omega)
        rw [this] at hz; simp at hz
  have hb : ∀ z ∈ (stAt l j).br, 0 ≤ nxS (stAt l i).br z.1 := fun z hz => by
    by_cases e1 : (stAt l j).kind = 1
    · exact g2.2.1 e1 z hz
    · by_cases e2 : (stAt l j).kind = 2
      · exact g1.2.2.1 (by dsimp only; omega) z hz
      · have := sj.e3 (by have := sj.k1; have := sj.k3; omega)
        rw [this] at hz; simp at hz
  refine al_of si.srt sj.srt ha hb fun z hz => ?_
  obtain ⟨w, hw, e1, e2⟩ := nx_nn (ha z hz)
  have h1 := g1.2.2.2 z hz (ha z hz)
  have h2 := g2.2.2.2 w hw (hb w hw)
  have e3 : nxS (stAt l i).br w.1 = z.2 := by rw [e1]; exact nx_mem si.srt hz
  dsimp only at h1 h2
  rw [e3] at h2
  rw [← e2]
  rw [← e2] at h1
  exact ⟨hl.nx hi hz, hl.nx hj hw, h1, h2⟩
theorem bis_E {l : List Se} (hl : LOk l) : ∀ r {i j : Int}, inR l i → inR l j → bisP l i j → E l r i j
  | 0, _, _, _, _, _ => trivial
  | r + 1, _, _, hi, hj, h => by
    have h1 := bis_step hl hi hj h
    exact ⟨h1.1, Al.imp (fun p _ q _ h => bis_E hl r h.1 h.2.1 h.2.2) h1.2⟩
theorem E_sub {l : List Se} (hl : LOk l) {i j : Int} (hi : inR l i) (hj : inR l j) (he : E l l.length i j) : SubP l l (i, j) := by
  refine ⟨fun p => inR l p.1 ∧ inR l p.2 ∧ E l l.length p.1 p.2, ⟨hi, hj, he⟩, ?_⟩
  rintro ⟨a, b⟩ ⟨ha, hb, hab⟩
  have h1 := E.fix hl ha hb hab
  have sa := hl.at ha.1 ha.2
  have sb := hl.at hb.1 hb.2
  dsimp only at ha hb hab
  have hab2 := h1.2
  have hba2 := Al.sy (fun _ _ h => E.sy l _ h) h1.2
  have key : ∀ {x y : List (Int × Int)}, x.Pairwise (fun a b => a.1 < b.1) → (∀ z ∈ x, 0 ≤ z.2) → (∀ z ∈ y, 0 ≤ z.2) → Al (E l l.length) x y → ∀ z ∈ x, 0 ≤ nxS y z.1 ∧ E l l.length z.2 (nxS y z.1) := fun {x y} hs h0 h0' h z hz => by
    have e := nx_mem hs hz
    rcases Al.nx z.1 h with ⟨h1, _⟩ | ⟨h1, _, ⟨w, hw, e2⟩⟩
    · have := h0 z hz; omega
    · rw [e] at h1
      exact ⟨by rw [← e2]; exact h0' w hw, h1⟩
  have ka := key sa.srt (fun z hz => (sa.rng z hz).2.2.1) (fun z hz => (sb.rng z hz).2.2.1) hab2
  have kb := key sb.srt (fun z hz => (sb.rng z hz).2.2.1) (fun z hz => (sa.rng z hz).2.2.1) hba2
  refine ⟨h1.1, fun _ z hz => (ka z hz).1, fun _ z hz => (kb z hz).1, fun z hz hn => ⟨hl.nx ha hz, ?_, (ka z hz).2⟩⟩
  obtain ⟨w, hw, _, e2⟩ := nx_nn hn
  dsimp only
  rw [← e2]
  exact hl.nx hb hw
theorem E_bis {l : List Se} (hl : LOk l) {i j : Int} (hi : inR l i) (hj : inR l j) : E l l.length i j ↔ bisP l i j :=
  ⟨fun h => ⟨E_sub hl hi hj h, E_sub hl hj hi (E.sy l _ h)⟩, fun h => bis_E hl _ hi hj h⟩
def atS (i k : Int) : Int := if k = 0 then i else if k = i then 0 else k
theorem atS_at (i k : Int) : atS i (atS i k) = k := by
  unfold atS
  by_cases h0 : k = 0
  · subst h0
    by_cases hi : i = 0
    · simp [hi]
    · simp [hi]
  · by_cases hk : k = i
    · subst hk; simp [h0]
    · simp [h0, hk]
theorem atS_nn {i k : Int} (hi : 0 ≤ i) : 0 ≤ atS i k ↔ 0 ≤ k := by
  unfold atS
  split
  · omega
  · split <;> omega
theorem atS_lt {n i k : Int} (hi : 0 ≤ i) (hn : i < n) (h : k < n) : atS i k < n := by
  unfold atS
  split
  · omega
  · split <;> omega
theorem atS_neg {i : Int} (hi : 0 ≤ i) : atS i (-1) = -1 := by unfold atS; rw [if_neg (by omega), if_neg (by omega)]
def mapS (f : Int → Int) (s : Se) : Se := ⟨s.kind, s.br.map fun z => (z.1, f z.2)⟩
theorem nx_map {f : Int → Int} (hf : f (-1) = -1) : ∀ (l : List (Int × Int)) (k : Int), nxS (l.map fun z => (z.1, f z.2)) k = f (nxS l k)
  | [], k => by simp [nxS, hf]
  | (m, x) :: l, k => by
    simp only [List.map_cons, nxS]
    split
    · rfl
    · exact nx_map hf l k
theorem sub_map {a b a' b' : List Se} {f g : Int → Int} (hf : f (-1) = -1) (hg : g (-1) = -1) (hf0 : ∀ x, 0 ≤ f x ↔ 0 ≤ x) (hg0 : ∀ x, 0 ≤ g x ↔ 0 ≤ x) (ha : ∀ s, stAt a' (f s) = mapS f (stAt a s)) (hb : ∀ s, stAt b' (g s) = mapS g (stAt b s)) {p : Int × Int} (h : SubP a b p) : SubP a' b' (f p.1, g p.2) := by
  obtain ⟨R, hR, hG⟩ := h
  refine ⟨fun q => ∃ p, R p ∧ q = (f p.1, g p.2), ⟨p, hR, rfl⟩, ?_⟩
  rintro _ ⟨p, hp, rfl⟩
  obtain ⟨g1, g2, g3, g4⟩ := hG p hp
  unfold Good
  dsimp only
  rw [ha, hb]
  simp only [mapS, nx_map hf, nx_map hg, hf0, hg0, List.mem_map]
  refine ⟨g1, fun e z hz => ?_, fun e z hz => ?_, fun z hz hn => ?_⟩
  · obtain ⟨w, hw, rfl⟩ := hz
    exact g2 e w hw
  · obtain ⟨w, hw, rfl⟩ := hz
    exact g3 e w hw
  · obtain ⟨w, hw, rfl⟩ := hz
    exact ⟨_, g4 w hw hn, rfl⟩
def movedS (l : List Se) (i : Int) : List Se := (List.range l.length).map fun k => mapS (atS i) (stAt l (atS i (k : Nat)))
theorem moved_at {l : List Se} {i : Int} (hi : inR l i) (s : Int) : stAt (movedS l i) (atS i s) = mapS (atS i) (stAt l s) := by
  by_cases h0 : 0 ≤ s
  · by_cases h1 : s < (l.length : Nat)
    · have h2 := (atS_nn (k := s) hi.1).2 h0
      have h3 := atS_lt (k := s) hi.1 hi.2 h1
      unfold stAt movedS
      rw [if_pos h2, List.getElem?_map, List.getElem?_range (by omega), if_pos h0]
      simp only [Option.map_some, Option.getD_some]
      rw [Int.toNat_of_nonneg h2, atS_at]
      unfold stAt
      rw [if_pos h0]
    · have he : atS i s = s := by unfold atS; rw [if_neg (by have := hi.1; have := hi.2; omega), if_neg (by have := hi.1; have := hi.2; omega)]
      rw [he]
      unfold stAt
      rw [if_pos h0, if_pos h0, List.getElem?_eq_none (by unfold movedS; rw [List.length_map, List.length_range]; omega), List.getElem?_eq_none (by omega)]
      rfl
  · have h2 : ¬ 0 ≤ atS i s := fun h => h0 ((atS_nn hi.1).1 h)
    unfold stAt
    rw [if_neg h0, if_neg h2]
    rfl
theorem moved_back {l : List Se} {i : Int} (hi : inR l i) (s : Int) : stAt l (atS i s) = mapS (atS i) (stAt (movedS l i) s) := by
  have h := moved_at hi (atS i s)
  rw [atS_at] at h
  rw [h]
  unfold mapS
  simp [List.map_map, Function.comp_def, atS_at]
theorem moved_sub {l : List Se} {i k : Int} (hi : inR l i) (hk : inR l k) : SubP (movedS l i) (movedS l k) (0, 0) ↔ SubP l l (i, k) := by
  have h1 := fun x => atS_nn (k := x) hi.1
  have h2 := fun x => atS_nn (k := x) hk.1
  have n1 := atS_neg hi.1
  have n2 := atS_neg hk.1
  constructor
  · intro h
    have := sub_map n1 n2 h1 h2 (moved_back hi) (moved_back hk) h
    unfold atS at this
    simpa using this
  · intro h
    have := sub_map n1 n2 h1 h2 (moved_at hi) (moved_at hk) h
    unfold atS at this
    dsimp only at this
    by_cases ei : i = 0 <;> by_cases ek : k = 0 <;> simpa [ei, ek] using this
end Go.Proofs.YthloejmmgdjimaaDoor
namespace Go.Proofs.YthloejmmgdjimaaDoor
def clsAt (c : List Int) (i : Int) : Int := (c[i.toNat]?).getD 0
def alB (c : List Int) : List (Int × Int) → List (Int × Int) → Bool
  | [], [] => true
  | p :: l, q :: m => decide (p.1 = q.1) && decide (clsAt c p.2 = clsAt c q.2) && alB c l m
  | _, _ => false
theorem alB_t {c : List Int} : ∀ {l m : List (Int × Int)}, alB c l m = true ↔ Al (fun x y => clsAt c x = clsAt c y) l m
  | [], [] => by simp [alB, Al]
  | p :: l, q :: m => by simp [alB, Al, alB_t (l := l) (m := m), and_assoc]
  | [], _ :: _ => by simp [alB, Al]
  | _ :: _, [] => by simp [alB, Al]
/-- package session's apart: true where they are alike -/
def apB (l : List Se) (c : List Int) (i j : Int) : Bool := decide ((stAt l i).kind = (stAt l j).kind) && alB c (stAt l i).br (stAt l j).br
theorem apB_E {l : List Se} (hl : LOk l) {c : List Int} {r : Nat} (hc : ∀ i j, inR l i → inR l j → (clsAt c i = clsAt c j ↔ E l r i j)) {i j : Int} (hi : inR l i) (hj : inR l j) : apB l c i j = true ↔ E l (r + 1) i j := by
  unfold apB
  rw [Bool.and_eq_true, decide_eq_true_iff, alB_t]
  constructor
  · rintro ⟨h1, h2⟩
    exact ⟨h1, Al.imp (fun p hp q hq h => (hc _ _ (hl.nx hi hp) (hl.nx hj hq)).1 h) h2⟩
  · rintro ⟨h1, h2⟩
    exact ⟨h1, Al.imp (fun p hp q hq h => (hc _ _ (hl.nx hi hp) (hl.nx hj hq)).2 h) h2⟩
/-- one round: the first of each class, the numbers given so far -/
structure FInv (S : Int → Int → Bool) (F done : List Int) : Prop where
  len : F.length ≤ done.length
  rg : ∀ j ∈ F, 0 ≤ j ∧ j < (done.length : Nat)
  dn : ∀ i < done.length, ∃ k j, done[i]? = some ((k : Nat) : Int) ∧ F[k]? = some j ∧ S (i : Nat) j = true
  ap : ∀ (k k' : Nat) (j j' : Int), k < k' → F[k]? = some j → F[k']? = some j' → S j' j = false
theorem finv_nil (S : Int → Int → Bool) : FInv S [] [] := ⟨by simp, fun _ h => by simp at h, fun _ h => by simp at h, fun _ _ _ _ _ h => by simp at h⟩
theorem finv_some {S : Int → Int → Bool} {F done : List Int} (h : FInv S F done) {k : Nat} (hk : F.findIdx? (fun j => S (done.length : Nat) j) = some k) : FInv S F (done ++ [((k : Nat) : Int)]) := by
  refine ⟨by rw [List.length_append]; have := h.len; omega, fun j hj => ?_, fun i hi => ?_, h.ap⟩
  · have := h.rg j hj
    rw [List.length_append]; simp only [List.length_cons, List.length_nil]; omega
  · by_cases e : i < done.length
    · obtain ⟨k, j, h1, h2⟩ := h.dn i e
      exact ⟨k, j, by rw [List.getElem?_append_left e]; exact h1, h2⟩
    · rw [List.length_append] at hi
      simp only [List.length_cons, List.length_nil] at hi
      obtain rfl : i = done.length := by omega
      obtain ⟨hlt, hp, _⟩ := List.findIdx?_eq_some_iff_getElem.1 hk
      exact ⟨k, F[k], by simp, List.getElem?_eq_getElem hlt, hp⟩
theorem finv_none {S : Int → Int → Bool} {F done : List Int} (h : FInv S F done) (hr : S (done.length : Nat) (done.length : Nat) = true) (hk : F.findIdx? (fun j => S (done.length : Nat) j) = none) : FInv S (F ++ [((done.length : Nat) : Int)]) (done ++ [((F.length : Nat) : Int)]) := by
  have hno := List.findIdx?_eq_none_iff.1 hk
  refine ⟨by rw [List.length_append, List.length_append]; have := h.len; simp only [List.length_cons, List.length_nil]; omega, fun j hj => ?_, fun i hi => ?_, fun k k' j j' hlt hj hj' => ?_⟩
  · rw [List.length_append]; simp only [List.length_cons, List.length_nil]
    rcases List.mem_append.1 hj with hj | hj
    · have := h.rg j hj; omega
    · rw [List.mem_singleton] at hj; omega
  · by_cases e : i < done.length
    · obtain ⟨k, j, h1, h2, h3⟩ := h.dn i e
      exact ⟨k, j, by rw [List.getElem?_append_left e]; exact h1, by rw [List.getElem?_append_left (List.getElem?_eq_some_iff.1 h2).1]; exact h2, h3⟩
    · rw [List.length_append] at hi
      simp only [List.length_cons, List.length_nil] at hi
      obtain rfl : i = done.length := by omega
      exact ⟨F.length, _, by simp, by simp, hr⟩
  · by_cases e : k' < F.length
    · rw [List.getElem?_append_left e] at hj'
      rw [List.getElem?_append_left (by omega)] at hj
      exact h.ap k k' j j' hlt hj hj'
    · have h2 := (List.getElem?_eq_some_iff.1 hj').1
      rw [List.length_append] at h2
      simp only [List.length_cons, List.length_nil] at h2
      obtain rfl : k' = F.length := by omega
      rw [List.getElem?_append_left (by omega)] at hj
      simp only [Nat.le_refl, List.getElem?_append_right, Nat.sub_self, List.getElem?_cons_zero, Option.some.injEq] at hj'
      subst hj'
      exact hno j (List.mem_of_getElem? hj)
theorem finv_end {S : Int → Int → Bool} {F done : List Int} (h : FInv S F done) {n : Nat} (hn : done.length = n) (sy : ∀ i j : Int, 0 ≤ i → i < (n : Nat) → 0 ≤ j → j < (n : Nat) → S i j = true → S j i = true) (tr : ∀ i j k : Int, 0 ≤ i → i < (n : Nat) → 0 ≤ j → j < (n : Nat) → 0 ≤ k → k < (n : Nat) → S i j = true → S j k = true → S i k = true) {i j : Int} (hi : 0 ≤ i) (hi' : i < (n : Nat)) (hj : 0 ≤ j) (hj' : j < (n : Nat)) : clsAt done i = clsAt done j ↔ S i j = true := by
  obtain ⟨i0, rfl⟩ : ∃ i0 : Nat, i = (i0 : Int) := ⟨i.toNat, by omega⟩
  obtain ⟨j0, rfl⟩ : ∃ j0 : Nat, j = (j0 : Int) := ⟨j.toNat, by omega⟩
  obtain ⟨k, a, h1, h2, h3⟩ := h.dn i0 (by omega)
  obtain ⟨k', b, g1, g2, g3⟩ := h.dn j0 (by omega)
  have ra := h.rg a (List.mem_of_getElem? h2)
  have rb := h.rg b (List.mem_of_getElem? g2)
  have e1 : clsAt done (i0 : Nat) = ((k : Nat) : Int) := by unfold clsAt; rw [Int.toNat_natCast, h1]; rfl
  have e2 : clsAt done (j0 : Nat) = ((k' : Nat) : Int) := by unfold clsAt; rw [Int.toNat_natCast, g1]; rfl
  rw [e1, e2]
  rw [hn] at ra rb
  constructor
  · intro e
    obtain rfl : k = k' := by omega
    rw [h2] at g2
    obtain rfl : a = b := by injection g2
    exact tr _ _ _ hi hi' ra.1 ra.2 hj hj' h3 (sy _ _ hj hj' ra.1 ra.2 g3)
  · intro hs
    have hab : S a b = true := tr _ _ _ ra.1 ra.2 hi hi' rb.1 rb.2 (sy _ _ hi hi' ra.1 ra.2 h3) (tr _ _ _ hi hi' hj hj' rb.1 rb.2 hs g3)
    have hba := sy _ _ ra.1 ra.2 rb.1 rb.2 hab
    rcases Nat.lt_trichotomy k k' with e | e | e
    · rw [h.ap k k' a b e h2 g2] at hba; simp at hba
    · rw [e]
    · rw [h.ap k' k b a e g2 h2] at hab; simp at hab
theorem finv_E {l : List Se} (hl : LOk l) {c : List Int} {r : Nat} (hc : ∀ i j, inR l i → inR l j → (clsAt c i = clsAt c j ↔ E l r i j)) {F done : List Int} (h : FInv (apB l c) F done) (hn : done.length = l.length) : ∀ i j, inR l i → inR l j → (clsAt done i = clsAt done j ↔ E l (r + 1) i j) := fun i j hi hj => by
  have ha := fun (i j : Int) (hi : inR l i) (hj : inR l j) => apB_E hl hc hi hj
  rw [← ha i j hi hj]
  exact finv_end h hn (fun a b ha0 ha1 hb0 hb1 h => (ha b a ⟨hb0, hb1⟩ ⟨ha0, ha1⟩).2 (E.sy l _ ((ha a b ⟨ha0, ha1⟩ ⟨hb0, hb1⟩).1 h)))
    (fun a b d ha0 ha1 hb0 hb1 hd0 hd1 h h' => (ha a d ⟨ha0, ha1⟩ ⟨hd0, hd1⟩).2 (E.tr l _ ((ha a b ⟨ha0, ha1⟩ ⟨hb0, hb1⟩).1 h) ((ha b d ⟨hb0, hb1⟩ ⟨hd0, hd1⟩).1 h'))) hi.1 hi.2 hj.1 hj.2
theorem cls_zero (l : List Se) : ∀ i j, inR l i → inR l j → (clsAt (List.replicate l.length 0) i = clsAt (List.replicate l.length 0) j ↔ E l 0 i j) := fun i j hi hj => by
  have h : ∀ k, clsAt (List.replicate l.length 0) k = 0 := fun k => by
    unfold clsAt
    rw [List.getElem?_replicate]
    split <;> rfl
  rw [h, h]
  exact ⟨fun _ => trivial, fun _ => rfl⟩
noncomputable def sameB (l : List Se) (i k : Int) : Bool := @decide (bisP l i k) (Classical.propDecidable _)
theorem sameB_t {l : List Se} {i k : Int} : sameB l i k = true ↔ bisP l i k := by unfold sameB; exact @decide_eq_true_iff _ (Classical.propDecidable _)
def bstep (same : Int → Int → Bool) (p : List Int × List (Int × Int)) (z : Int × Int) : List Int × List (Int × Int) :=
  match p.1.findIdx? (fun i => same i z.2) with
  | some k => (p.1, p.2 ++ [(z.1, ((k : Nat) : Int))])
  | none => (p.1 ++ [z.2], p.2 ++ [(z.1, ((p.1.length : Nat) : Int))])
def lstep (same : Int → Int → Bool) (l : List Se) (p : List Int × List Se) : List Int × List Se :=
  match p.1[p.2.length]? with
  | none => p
  | some s => (((stAt l s).br.foldl (bstep same) (p.1, [])).1, p.2 ++ [⟨(stAt l s).kind, ((stAt l s).br.foldl (bstep same) (p.1, [])).2⟩])
def leastR (same : Int → Int → Bool) (l : List Se) : Nat → List Int × List Se
  | 0 => ([0], [])
  | k + 1 => lstep same l (leastR same l k)
noncomputable def leastL (l : List Se) : List Se := (leastR (sameB l) l l.length).2
structure LInv (l : List Se) (o : List Int) : Prop where
  rg : ∀ i ∈ o, inR l i
  nd : o.Nodup
theorem LInv.len {l : List Se} {o : List Int} (h : LInv l o) : o.length ≤ l.length := by
  have := nodup_len (n := l.length) (o.map Int.toNat) (by
    refine List.Pairwise.map _ (fun p q hpq => hpq) ?_
    refine List.Pairwise.imp_of_mem ?_ h.nd
    intro p q hp hq hne e
    have h1 := h.rg _ hp
    have h2 := h.rg _ hq
    unfold inR at h1 h2
    exact hne (by omega)) (fun x hx => by
    obtain ⟨p, hp, rfl⟩ := List.mem_map.1 hx
    have := h.rg _ hp
    unfold inR at this
    omega)
  rwa [List.length_map] at this
theorem sameB_rf {l : List Se} (hl : LOk l) {i : Int} (hi : inR l i) : sameB l i i = true := sameB_t.2 ((E_bis hl hi hi).1 (E.rf l _ i))
theorem bstep_inv {l : List Se} (hl : LOk l) {o : List Int} {bs : List (Int × Int)} (h : LInv l o) {z : Int × Int} (hz : inR l z.2) : LInv l (bstep (sameB l) (o, bs) z).1 := by
  unfold bstep
  dsimp only
  split
  · exact h
  · rename_i hn
    have hno := List.findIdx?_eq_none_iff.1 hn
    refine ⟨fun i hi => ?_, List.nodup_append.2 ⟨h.nd, by simp, fun a ha b hb e => ?_⟩⟩
    · rcases List.mem_append.1 hi with hi | hi
      · exact h.rg i hi
      · rw [List.mem_singleton] at hi; subst hi; exact hz
    · rw [List.mem_singleton] at hb
      subst hb
      subst e
      have h1 := hno _ ha
      rw [sameB_rf hl hz] at h1
      simp at h1
theorem bs_inv {l : List Se} (hl : LOk l) : ∀ (m : List (Int × Int)) {o : List Int} {bs : List (Int × Int)}, LInv l o → (∀ z ∈ m, inR l z.2) → LInv l (m.foldl (bstep (sameB l)) (o, bs)).1
  | [], _, _, h, _ => h
  | z :: m, o, bs, h, hm => by
    rw [List.foldl_cons]
    exact bs_inv hl m (o := (bstep (sameB l) (o, bs) z).1) (bs := (bstep (sameB l) (o, bs) z).2) (bstep_inv hl h (hm z List.mem_cons_self)) (fun z hz => hm z (List.mem_cons_of_mem _ hz))
/-- sizes and numbers small -/
structure Sml (l : List Se) : Prop where
  n : l.length ≤ 16
  st : ∀ s ∈ l, 0 ≤ s.kind ∧ s.kind ≤ 3 ∧ s.br.length ≤ 6 ∧ ∀ z ∈ s.br, 0 ≤ z.1 ∧ z.1 ≤ 20 ∧ 0 ≤ z.2 ∧ z.2 ≤ 16
theorem LOk.sml {l : List Se} (h : LOk l) : Sml l := ⟨h.n16, fun s hs => by
  have h1 := h.st s hs
  have h2 := h.n16
  refine ⟨by have := h1.k1; omega, h1.k3, h1.len, fun z hz => ?_⟩
  have := h1.rng z hz
  omega⟩
theorem bs_sml {l : List Se} (hl : LOk l) : ∀ (m : List (Int × Int)) {o : List Int} {bs : List (Int × Int)}, LInv l o → (∀ z ∈ m, inR l z.2 ∧ 0 ≤ z.1 ∧ z.1 ≤ 20) → (∀ z ∈ bs, 0 ≤ z.1 ∧ z.1 ≤ 20 ∧ 0 ≤ z.2 ∧ z.2 ≤ 16) → (∀ z ∈ (m.foldl (bstep (sameB l)) (o, bs)).2, 0 ≤ z.1 ∧ z.1 ≤ 20 ∧ 0 ≤ z.2 ∧ z.2 ≤ 16) ∧ (m.foldl (bstep (sameB l)) (o, bs)).2.length = bs.length + m.length
  | [], _, _, _, _, hb => ⟨hb, rfl⟩
  | z :: m, o, bs, h, hm, hb => by
    rw [List.foldl_cons]
    have hz := hm z List.mem_cons_self
    have h1 := bs_sml hl m (o := (bstep (sameB l) (o, bs) z).1) (bs := (bstep (sameB l) (o, bs) z).2) (bstep_inv hl h hz.1) (fun z hz => hm z (List.mem_cons_of_mem _ hz)) (by
      have := h.len
      have := hl.n16
      unfold bstep
      dsimp only
      split
      · rename_i k hk
        have := (List.findIdx?_eq_some_iff_getElem.1 hk).1
        intro w hw
        rcases List.mem_append.1 hw with hw | hw
        · exact hb w hw
        · rw [List.mem_singleton] at hw; subst hw; dsimp only; omega
      · intro w hw
        rcases List.mem_append.1 hw with hw | hw
        · exact hb w hw
        · rw [List.mem_singleton] at hw; subst hw; dsimp only; omega)
    refine ⟨h1.1, h1.2.trans ?_⟩
    unfold bstep
    dsimp only
    split <;> simp <;> omega
/-- what holds after each step of the search -/
structure RInv (l : List Se) (p : List Int × List Se) : Prop where
  o : LInv l p.1
  out : p.2.length ≤ p.1.length
  st : ∀ s ∈ p.2, 0 ≤ s.kind ∧ s.kind ≤ 3 ∧ s.br.length ≤ 6 ∧ ∀ z ∈ s.br, 0 ≤ z.1 ∧ z.1 ≤ 20 ∧ 0 ≤ z.2 ∧ z.2 ≤ 16
theorem bs_mono (same : Int → Int → Bool) : ∀ (m : List (Int × Int)) (p : List Int × List (Int × Int)), p.1.length ≤ (m.foldl (bstep same) p).1.length
  | [], _ => Nat.le_refl _
  | z :: m, p => by
    rw [List.foldl_cons]
    refine Nat.le_trans ?_ (bs_mono same m _)
    unfold bstep
    split
    · exact Nat.le_refl _
    · simp
theorem lstep_inv {l : List Se} (hl : LOk l) {p : List Int × List Se} (h : RInv l p) : RInv l (lstep (sameB l) l p) := by
  unfold lstep
  split
  · exact h
  · rename_i s hs
    have hr := h.o.rg s (List.mem_of_getElem? hs)
    have so := hl.at hr.1 hr.2
    have hlt := (List.getElem?_eq_some_iff.1 hs).1
    have hm : ∀ z ∈ (stAt l s).br, inR l z.2 ∧ 0 ≤ z.1 ∧ z.1 ≤ 20 := fun z hz => ⟨hl.nx hr hz, (so.rng z hz).1, (so.rng z hz).2.1⟩
    have hb := bs_sml hl (stAt l s).br h.o hm (bs := []) (fun z hz => by simp at hz)
    refine ⟨bs_inv hl _ h.o (fun z hz => (hm z hz).1), ?_, fun x hx => ?_⟩
    · dsimp only
      rw [List.length_append]
      have h1 := bs_mono (sameB l) (stAt l s).br (p.1, [])
      dsimp only at h1
      simp only [List.length_cons, List.length_nil]
      omega
    · rcases List.mem_append.1 hx with hx | hx
      · exact h.st x hx
      · rw [List.mem_singleton] at hx
        subst hx
        refine ⟨by have := so.k1; dsimp only; omega, so.k3, ?_, hb.1⟩
        have := hb.2
        have := so.len
        simp only [List.length_nil] at *
        omega
theorem least_inv {l : List Se} (hl : LOk l) : ∀ k, RInv l (leastR (sameB l) l k)
  | 0 => ⟨⟨fun i hi => by
      unfold leastR at hi
      rw [List.mem_singleton] at hi
      subst hi
      have := hl.n1
      unfold inR; omega, by unfold leastR; simp⟩, by simp [leastR], fun s hs => by simp [leastR] at hs⟩
  | k + 1 => lstep_inv hl (least_inv hl k)
/-- when nothing is left, that is the answer -/
theorem least_end {l : List Se} (hl : LOk l) {k : Nat} (hk : (leastR (sameB l) l k).2.length = k) (he : (leastR (sameB l) l k).1.length = k) : (leastR (sameB l) l k).2 = leastL l := by
  have h1 := (least_inv hl k).o.len
  have h2 : ∀ j, leastR (sameB l) l (k + j) = leastR (sameB l) l k := by
    intro j
    induction j with
    | zero => rfl
    | succ j ih =>
      show lstep (sameB l) l (leastR (sameB l) l (k + j)) = _
      rw [ih]
      unfold lstep
      rw [hk, List.getElem?_eq_none (by omega)]
  unfold leastL
  rw [show l.length = k + (l.length - k) by omega, h2]
theorem least_sml {l : List Se} (hl : LOk l) : Sml (leastL l) := by
  have h := least_inv hl l.length
  refine ⟨?_, h.st⟩
  have h1 := h.out
  have h2 := h.o.len
  have h3 := hl.n16
  unfold leastL
  omega
end Go.Proofs.YthloejmmgdjimaaDoor
namespace Go.Proofs.YthloejmmgdjimaaDoor
abbrev Mm := Addr → Option Value
/-- a variable's number, what its cells hold -/
def globTab : List (Nat × Array Value) := [(0, (Lib.pow10Tab.map fun z => Value.int .u64 z).toArray)]
def Glob (w : World) : Prop := ∀ x ∈ globTab, ∃ t fr, w.heap[x.1]? = some (.cells x.2 t fr)
end Go.Proofs.YthloejmmgdjimaaDoor
namespace Go.Proofs.YthloejmmgdjimaaDoor
open Go.RowKit
def OwnsO (w : World) (e : TypeId) (size : Nat) (v : Value) (n : Nat) (xs : List Value) : Prop :=
  xs.length = n * size ∧
  ((v = .slice none 0 0 ∧ n = 0) ∨
   ∃ g off cap cur, v = .slice (some ⟨g, off, none⟩) n cap ∧ w.heap[g]? = some (.cells cur e (0, 0)) ∧ n ≤ cap ∧ cap ≤ maxLen ∧ off + cap * size ≤ cur.size ∧ (cur.toList.drop off).take (n * size) = xs)
section
variable {w : World} {e : TypeId} {sz n : Nat} {v : Value} {xs : List Value}
theorem ownsO_nil (w : World) (e : TypeId) (sz : Nat) : OwnsO w e sz (.slice none 0 0) 0 [] := ⟨by simp, .inl ⟨rfl, rfl⟩⟩
theorem ownsO_of {base : Nat} (h : w.ownsRow base e sz v n xs) : OwnsO w e sz v n xs := by
  refine ⟨h.1, ?_⟩
  rcases h.2 with h | ⟨g, cap, cur, h1, _, h3, h4, h5, h6, h7⟩
  · exact .inl h
  · exact .inr ⟨g, 0, cap, cur, h1, h3, h4, h5, by omega, by simpa using h7⟩
theorem ownO_shape (h : OwnsO w e sz v n xs) : ∃ A c, v = .slice A n c ∧ n ≤ c ∧ c ≤ maxLen := by
  rcases h.2 with ⟨rfl, rfl⟩ | ⟨g, off, cap, cur, rfl, _, h1, h2, _⟩
  · exact ⟨none, 0, rfl, Nat.le_refl _, Nat.zero_le _⟩
  · exact ⟨_, _, rfl, h1, h2⟩
theorem offs_add (g off j : Nat) : (⟨g, off, none⟩ : Addr).add j = ⟨g, off + j, none⟩ := by unfold Addr.add; split <;> simp_all
theorem OwnsO.cells {ad : Addr} {m c : Nat} (h : OwnsO w e sz (.slice (some ad) m c) n xs) : ∀ j u, xs[j]? = some u → w.cell? (ad.add j) = some u := by
  rcases h.2 with ⟨h0, _⟩ | ⟨g, off, cap, cur, hv, hg, hnc, hcm, hcs, htk⟩
  · cases h0
  · have hA : ad = ⟨g, off, none⟩ := by injection hv with h; injection h
    subst hA
    intro j u hj
    rw [offs_add, cell_of_row w g (off + j) cur e (0, 0) hg]
    rw [← htk, List.getElem?_take] at hj
    split at hj
    · rw [List.getElem?_drop] at hj; simpa using hj
    · cases hj
theorem OwnsO.block {ad : Addr} {m c : Nat} (h : OwnsO w e sz (.slice (some ad) m c) n xs) : ad.block < w.heap.size := by
  rcases h.2 with ⟨h0, _⟩ | ⟨g, off, cap, cur, hv, hg, _⟩
  · cases h0
  · have hA : ad = ⟨g, off, none⟩ := by injection hv with h; injection h
    subst hA
    exact (Array.getElem?_eq_some_iff.1 hg).1
theorem OwnsO.some_ {A : Option Addr} {m c : Nat} (h : OwnsO w e sz (.slice A m c) n xs) (h0 : 0 < n) : ∃ ad, A = some ad := by
  rcases h.2 with ⟨_, h1⟩ | ⟨g, off, cap, cur, hv, _⟩
  · omega
  · exact ⟨⟨g, off, none⟩, by injection hv⟩
theorem OwnsO.take {A : Option Addr} {c k : Nat} (h : OwnsO w e sz (.slice A n c) n xs) (hk : k ≤ n) : OwnsO w e sz (.slice A k c) k (xs.take (k * sz)) := by
  have hle : k * sz ≤ n * sz := Nat.mul_le_mul_right _ hk
  refine ⟨by rw [List.length_take, h.1]; exact Nat.min_eq_left hle, ?_⟩
  rcases h.2 with ⟨hv, h0⟩ | ⟨g, off, cap, cur, hv, hg, hnc, hcm, hcs, htk⟩
  · injection hv with h1 _ h2
    subst h1; subst h2
    obtain rfl : k = 0 := by omega
    exact .inl ⟨rfl, rfl⟩
  · injection hv with h1 _ h2
    subst h1; subst h2
    exact .inr ⟨g, off, c, cur, rfl, hg, by omega, hcm, hcs, by rw [← htk, List.take_take, Nat.min_eq_left hle]⟩
theorem OwnsO.drop {A : Option Addr} {c k : Nat} (h : OwnsO w e sz (.slice A n c) n xs) (hk : k ≤ n) : OwnsO w e sz (.slice (if c = k then A else A.map (·.add (k * sz))) (n - k) (c - k)) (n - k) (xs.drop (k * sz)) := by
  refine ⟨by rw [List.length_drop, h.1, Nat.sub_mul], ?_⟩
  rcases h.2 with ⟨hv, h0⟩ | ⟨g, off, cap, cur, hv, hg, hnc, hcm, hcs, htk⟩
  · injection hv with h1 _ h2
    subst h1; subst h2
    obtain rfl : k = 0 := by omega
    obtain rfl : n = 0 := h0
    exact .inl ⟨rfl, rfl⟩
  · injection hv with h1 _ h2
    subst h1; subst h2
    by_cases hc : c = k
    · subst hc
      obtain rfl : c = n := by omega
      rw [if_pos rfl]
      refine .inr ⟨g, off, 0, cur, by simp, hg, by omega, by omega, by have := Nat.zero_le (c * sz); omega, ?_⟩
      have hlen : xs.length = c * sz := h.1
      simp [hlen]
    · rw [if_neg hc]
      refine .inr ⟨g, off + k * sz, c - k, cur, by simp [offs_add], hg, by omega, by omega, ?_, ?_⟩
      · rw [Nat.sub_mul]
        have := Nat.mul_le_mul_right sz (show k ≤ c by omega)
        omega
      · rw [← htk, List.drop_take, List.drop_drop, Nat.sub_mul]
theorem OwnsO.keep {w' : World} (h : OwnsO w e sz v n xs) (hb : ∀ b, v.ownBlock = some b → b < w.heap.size → w'.heap[b]? = w.heap[b]?) : OwnsO w' e sz v n xs := by
  refine ⟨h.1, ?_⟩
  rcases h.2 with hn | ⟨g, off, cap, cur, rfl, hg, rest⟩
  · exact .inl hn
  · exact .inr ⟨g, off, cap, cur, rfl, by rw [hb g rfl (Array.getElem?_eq_some_iff.1 hg).1]; exact hg, rest⟩
theorem OwnsO.lt (h : OwnsO w e sz v n xs) {b : Nat} (hb : v.ownBlock = some b) : b < w.heap.size := by
  rcases h.2 with ⟨rfl, _⟩ | ⟨g, off, cap, cur, rfl, hg, rest⟩
  · simp [Value.ownBlock] at hb
  · obtain rfl : g = b := by simpa [Value.ownBlock] using hb
    exact (Array.getElem?_eq_some_iff.1 hg).1
end
section
variable {P : Program} (w : World)
theorem run_append_room_o (t tx ty e : TypeId) (i : TypeInfo) (ht : P.underlying t = some (.slice e)) (hi : P.info? e = some i)
    (g off sLen sCap : Nat) (cur : Array Value) (hg : w.heap[g]? = some (.cells cur e (0, 0))) (x : Value) (m : Nat) (news : List Value) (hs : Src P i.size tx x m news w)
    (hroom : sLen + m ≤ sCap) (hfit : off + sLen * i.size + news.length ≤ cur.size) :
    (Builtin.append_ #[t, tx] ty #[.slice (some ⟨g, off, none⟩) sLen sCap, x]).run P w =
      .ok (.slice (some ⟨g, off, none⟩) (sLen + m) sCap) (w.setRow g (cur.toList.take (off + sLen * i.size) ++ news ++ cur.toList.drop (off + sLen * i.size + news.length)).toArray) := by
  have hst := run_storeCells_at P g (off + sLen * i.size) e news 0 cur w hg (by simpa using hfit) hs.one
  simp only [Nat.add_zero] at hst
  rcases hs.kind with ⟨e', hk⟩ | hk <;> simp [Builtin.append_, run_underlying ht, run_underlying hk, sizeOf, typeInfo, hi, hs.len, hroom, hs.cells, Addr.add_lit, hst]
theorem run_append_o (t tx ty e : TypeId) (i : TypeInfo) (z : Value) (size bytes : Nat) (ht : P.underlying t = some (.slice e)) (hi : P.info? e = some i) (hz : i.zero = some z)
    (hsize : i.size = size) (hby : i.bytes = bytes) (hzs : z.cells.size = size) (hsz : 0 < size)
    (v : Value) (n : Nat) (xs : List Value) (hown : OwnsO w e size v n xs) (x : Value) (m : Nat) (news : List Value) (hs : Src P i.size tx x m news w)
    (h63 : n + m ≤ maxLen) (hbytes : (n + m) * bytes ≤ 140737488355328) :
    ∃ v' w', (Builtin.append_ #[t, tx] ty #[v, x]).run P w = .ok v' w' ∧ OwnsO w' e size v' (n + m) (xs ++ news) ∧ w.grownBy w' v.ownBlock ∧ (v'.ownBlock = v.ownBlock ∨ v'.ownBlock = some w.heap.size) := by
  subst hsize
  subst hby
  have hsmall : n + m ≤ 9223372036854775807 := by simp only [maxLen] at h63; omega
  have hl : news.length = m * i.size := hs.newsLen
  have hlen : (xs ++ news).length = (n + m) * i.size := by rw [List.length_append, hown.1, hl, Nat.add_mul]
  have grown : ∀ (old : Nat), old < n + m → ∀ (row : Option Nat),
      OwnsO (w.drew.alloc (.cells ((xs ++ news).toArray ++ Builtin.zeroCells z.cells (grownCap w (n + m) old e - (n + m))) e)) e i.size
        (.slice (some ⟨w.heap.size, 0, none⟩) (n + m) (grownCap w (n + m) old e)) (n + m) (xs ++ news) ∧
      w.grownBy (w.drew.alloc (.cells ((xs ++ news).toArray ++ Builtin.zeroCells z.cells (grownCap w (n + m) old e - (n + m))) e)) row := by
    intro old ho row
    have hge := grownCap_ge w (n + m) old e
    have hcm : grownCap w (n + m) old e ≤ maxLen := grownCap_le_maxLen w (n + m) old e h63
    refine ⟨⟨hlen, .inr ⟨w.heap.size, 0, _, _, rfl, heap_alloc_new w.drew _, hge, hcm, ?_, ?_⟩⟩, ⟨rfl, rfl, rfl, by simp, fun k hk _ => heap_alloc_old w.drew _ hk⟩⟩
    · simp only [Array.size_append, List.size_toArray, size_zeroCells, hzs, hlen, Nat.zero_add]
      rw [← Nat.add_mul]
      exact Nat.mul_le_mul_right _ (by omega)
    · simp only [Array.toList_append, List.drop_zero]
      rw [← hlen]
      exact List.take_left
  rcases hown.2 with ⟨rfl, rfl⟩ | ⟨g, off, cap, cur, rfl, hg, hnc, hcm, hcs, htake⟩
  · have hx : xs = [] := List.eq_nil_of_length_eq_zero (by simpa using hown.1)
    subst hx
    by_cases hm : m = 0
    · subst hm
      have hn : news = [] := List.eq_nil_of_length_eq_zero (by simpa using hl)
      subst hn
      refine ⟨.slice none 0 0, w, ?_, ownsO_nil w e i.size, ⟨rfl, rfl, rfl, Nat.le_refl _, fun _ _ _ => rfl⟩, Or.inl rfl⟩
      rcases hs.kind with ⟨e', hk⟩ | hk <;> simp [Builtin.append_, run_underlying ht, run_underlying hk, sizeOf, typeInfo, hi, hs.len, hs.cells]
    · have hr := run_append_grow_src (P := P) w t tx ty e i z ht hi hz none 0 0 [] (by simp [Builtin.firstCells]) x m news hs (by omega) (by omega) (growslice_fits (by omega) hbytes)
      have hgr := grown 0 (by omega) (Value.ownBlock (.slice none 0 0))
      simp only [Nat.zero_add, List.nil_append] at hgr hr ⊢
      exact ⟨_, _, hr, hgr.1, hgr.2, Or.inr rfl⟩
  · by_cases hroom : n + m ≤ cap
    · have hle : (n + m) * i.size ≤ cap * i.size := Nat.mul_le_mul_right _ hroom
      have hfit : off + n * i.size + news.length ≤ cur.size := by rw [hl]; rw [Nat.add_mul] at hle; omega
      have hr := run_append_room_o (P := P) w t tx ty e i ht hi g off n cap cur hg x m news hs hroom hfit
      refine ⟨_, _, hr, ⟨hlen, .inr ⟨g, off, cap, _, rfl, setRow_heap w g cur _ e _ hg, hroom, hcm, ?_, ?_⟩⟩, ⟨rfl, rfl, rfl, by simp, fun k _ hk => setRow_other w g k _ (fun e => hk (by simp [Value.ownBlock, e]))⟩, Or.inl rfl⟩
      · simp only [List.size_toArray, List.length_append, List.length_take, List.length_drop, Array.length_toList]
        omega
      · have h1 : off ≤ cur.toList.length := by simp; omega
        have h2 : cur.toList.take (off + n * i.size) = cur.toList.take off ++ xs := by rw [List.take_add, htake]
        have h3 : (cur.toList.take off).length = off := by rw [List.length_take]; omega
        simp only []
        rw [h2, List.append_assoc, List.append_assoc, List.drop_append_of_le_length (by rw [h3]; exact Nat.le_refl _), List.drop_of_length_le (by rw [h3]; exact Nat.le_refl _), List.nil_append, ← List.append_assoc, ← hlen]
        exact List.take_left
    · have holds : (Builtin.firstCells i.size n (.slice (some ⟨g, off, none⟩) n cap)).run P w.drew = .ok xs.toArray w.drew :=
        run_firstCells_some (P := P) w.drew i.size n ⟨g, off, none⟩ n cap xs hown.1 (by simpa using hown.cells)
      have hr := run_append_grow_src (P := P) w t tx ty e i z ht hi hz (some ⟨g, off, none⟩) n cap xs holds x m news hs (by omega) (by omega) (growslice_fits (by omega) hbytes)
      have hgr := grown cap (by omega) (Value.ownBlock (.slice (some ⟨g, off, none⟩) n cap))
      exact ⟨_, _, hr, hgr.1, hgr.2, Or.inr rfl⟩
end
end Go.Proofs.YthloejmmgdjimaaDoor
