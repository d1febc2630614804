/-
  Data with depth: trees of cells. 'RD w S d u': the one-cell value u reads in the world w as d, and every row that is met lies in a block of S. Nothing of the program is named here.
-/
import Derived.Test.YtdajeoifmfbgkaaMem
namespace Go.Proofs.Ytdajeoifmfbgkaa
open Go.RowKit

inductive Dat where
  | one (v : Value)
  | row (sz : Nat) (ds : List Dat)

/-- the slice value '.slice A n c' holds the cells xs, and lies in a block of S -/
def Rs (w : World) (S : Nat → Prop) (sz : Nat) (A : Option Addr) (n : Nat) (xs : List Value) : Prop :=
  xs.length = n * sz ∧ (0 < n → ∃ ad, A = some ad ∧ S ad.block ∧ ∀ j u, xs[j]? = some u → w.cell? (ad.add j) = some u)

mutual
def RD (w : World) (S : Nat → Prop) : Dat → Value → Prop
  | .one v, u => u = v ∧ v.oneCell' = true
  | .row sz ds, u => ∃ (A : Option Addr) (n c : Nat) (xs : List Value), u = .slice A n c ∧ n ≤ c ∧ 0 < sz ∧ Rs w S sz A n xs ∧ RV w S ds xs
def RV (w : World) (S : Nat → Prop) : List Dat → List Value → Prop
  | [], xs => xs = []
  | d :: ds, xs => ∃ (x : Value) (r : List Value), xs = x :: r ∧ RD w S d x ∧ RV w S ds r
end

section
variable {w w' : World} {S S' : Nat → Prop} {sz n : Nat} {A : Option Addr} {xs : List Value}
theorem Rs.keep (h : Rs w S sz A n xs) (hk : ∀ p : Addr, S p.block → w'.cell? p = w.cell? p) (hS : ∀ b, S b → S' b) : Rs w' S' sz A n xs := by
  refine ⟨h.1, fun hn => ?_⟩
  obtain ⟨ad, e, hb, hc⟩ := h.2 hn
  exact ⟨ad, e, hS _ hb, fun j u hu => (hk _ (by rw [add_block]; exact hb)).trans (hc j u hu)⟩
theorem Rs.rd (h : Rs w S sz A n xs) (hsz : 0 < sz) : Rd w w.heap.size sz A n xs := by
  refine ⟨h.1, fun hn => ?_⟩
  obtain ⟨ad, e, _, hc⟩ := h.2 hn
  have hl : 0 < xs.length := by rw [h.1]; exact Nat.mul_pos hn hsz
  have := World.block_lt_of_cell? w _ (hc 0 _ (List.getElem?_eq_getElem hl))
  rw [add_block] at this
  exact ⟨ad, e, this, hc⟩
theorem Rd.rs {B : Nat} (h : Rd w B sz A n xs) (hS : ∀ b, b < B → S b) : Rs w S sz A n xs := by
  refine ⟨h.1, fun hn => ?_⟩
  obtain ⟨ad, e, hb, hc⟩ := h.2 hn
  exact ⟨ad, e, hS _ hb, hc⟩
end

theorem Rs.of_own {w : World} {base sz n c : Nat} {e : TypeId} {A : Option Addr} {xs : List Value} (h : w.ownsRow base e sz (.slice A n c) n xs) : Rs w (fun b => base ≤ b) sz A n xs := by
  refine ⟨h.1, fun hn => ?_⟩
  rcases h.2 with ⟨_, h0⟩ | ⟨g, cap, cur, hv, hb, hg, _⟩
  · omega
  · have hA : A = some ⟨g, 0, none⟩ := by injection hv
    subst hA
    exact ⟨_, rfl, hb, h.cells (g := g) rfl⟩

mutual
theorem RD.keep {w w' : World} {S S' : Nat → Prop} (hk : ∀ p : Addr, S p.block → w'.cell? p = w.cell? p) (hS : ∀ b, S b → S' b) : ∀ (d : Dat) (u : Value), RD w S d u → RD w' S' d u
  | .one v, u, h => by simp only [RD] at h ⊢; exact h
  | .row sz ds, u, h => by
    simp only [RD] at h ⊢
    obtain ⟨A, n, c, xs, h1, h2, h3, h4, h5⟩ := h
    exact ⟨A, n, c, xs, h1, h2, h3, h4.keep hk hS, RV.keep hk hS ds xs h5⟩
theorem RV.keep {w w' : World} {S S' : Nat → Prop} (hk : ∀ p : Addr, S p.block → w'.cell? p = w.cell? p) (hS : ∀ b, S b → S' b) : ∀ (ds : List Dat) (xs : List Value), RV w S ds xs → RV w' S' ds xs
  | [], xs, h => by simp only [RV] at h ⊢; exact h
  | d :: ds, xs, h => by
    simp only [RV] at h ⊢
    obtain ⟨x, r, e, h1, h2⟩ := h
    exact ⟨x, r, e, RD.keep hk hS d x h1, RV.keep hk hS ds r h2⟩
end

theorem RV.len {w : World} {S : Nat → Prop} : ∀ {ds : List Dat} {xs : List Value}, RV w S ds xs → xs.length = ds.length
  | [], _, h => by simp only [RV] at h; simp [h]
  | d :: ds, _, h => by
    simp only [RV] at h
    obtain ⟨x, r, rfl, _, h2⟩ := h
    simp [RV.len h2]
theorem RV.app {w : World} {S : Nat → Prop} : ∀ {ds es : List Dat} {xs ys : List Value}, RV w S ds xs → RV w S es ys → RV w S (ds ++ es) (xs ++ ys)
  | [], _, _, _, h, h' => by simp only [RV] at h; subst h; simpa using h'
  | d :: ds, es, _, ys, h, h' => by
    simp only [RV] at h
    obtain ⟨x, r, rfl, h1, h2⟩ := h
    simp only [List.cons_append, RV]
    exact ⟨x, r ++ ys, rfl, h1, RV.app h2 h'⟩
theorem RV.split {w : World} {S : Nat → Prop} : ∀ {ds es : List Dat} {xs : List Value}, RV w S (ds ++ es) xs → ∃ ys zs, xs = ys ++ zs ∧ RV w S ds ys ∧ RV w S es zs
  | [], _, xs, h => ⟨[], xs, rfl, by simp [RV], h⟩
  | d :: ds, es, _, h => by
    simp only [List.cons_append, RV] at h
    obtain ⟨x, r, rfl, h1, h2⟩ := h
    obtain ⟨ys, zs, rfl, h3, h4⟩ := RV.split h2
    exact ⟨x :: ys, zs, rfl, by simp only [RV]; exact ⟨x, ys, rfl, h1, h3⟩, h4⟩
theorem RD.oneCell {w : World} {S : Nat → Prop} : ∀ {d : Dat} {u : Value}, RD w S d u → u.oneCell' = true
  | .one v, u, h => by simp only [RD] at h; rw [h.1]; exact h.2
  | .row sz ds, u, h => by
    simp only [RD] at h
    obtain ⟨A, n, c, xs, rfl, _⟩ := h
    rfl
theorem RV.oneCell {w : World} {S : Nat → Prop} : ∀ {ds : List Dat} {xs : List Value}, RV w S ds xs → ∀ u ∈ xs, u.oneCell' = true
  | [], _, h, u, hu => by simp only [RV] at h; subst h; simp at hu
  | d :: ds, _, h, u, hu => by
    simp only [RV] at h
    obtain ⟨x, r, rfl, h1, h2⟩ := h
    rcases List.mem_cons.1 hu with rfl | hu
    · exact h1.oneCell
    · exact RV.oneCell h2 u hu

theorem Rs.lt {w : World} {S : Nat → Prop} {sz n : Nat} {A : Option Addr} {xs : List Value} (h : Rs w S sz A n xs) (hsz : 0 < sz) : Rs w (fun b => S b ∧ b < w.heap.size) sz A n xs := by
  refine ⟨h.1, fun hn => ?_⟩
  obtain ⟨ad, e, hb, hc⟩ := h.2 hn
  obtain ⟨ad', e', hb', _⟩ := (h.rd hsz).2 hn
  have : ad = ad' := by rw [e] at e'; injection e'
  subst this
  exact ⟨ad, e, ⟨hb, hb'⟩, hc⟩
mutual
theorem RD.lt {w : World} {S : Nat → Prop} : ∀ (d : Dat) (u : Value), RD w S d u → RD w (fun b => S b ∧ b < w.heap.size) d u
  | .one v, u, h => by simp only [RD] at h ⊢; exact h
  | .row sz ds, u, h => by
    simp only [RD] at h ⊢
    obtain ⟨A, n, c, xs, h1, h2, h3, h4, h5⟩ := h
    exact ⟨A, n, c, xs, h1, h2, h3, h4.lt h3, RV.lt ds xs h5⟩
theorem RV.lt {w : World} {S : Nat → Prop} : ∀ (ds : List Dat) (xs : List Value), RV w S ds xs → RV w (fun b => S b ∧ b < w.heap.size) ds xs
  | [], xs, h => by simp only [RV] at h ⊢; exact h
  | d :: ds, xs, h => by
    simp only [RV] at h ⊢
    obtain ⟨x, r, e, h1, h2⟩ := h
    exact ⟨x, r, e, RD.lt d x h1, RV.lt ds r h2⟩
end
theorem RV.below {w w' : World} {S : Nat → Prop} {ds : List Dat} {xs : List Value} (h : RV w S ds xs) (hb : Below w.heap.size w w') : RV w' S ds xs :=
  RV.keep (fun _ hp => hb.cell hp.2) (fun _ hb => hb.1) ds xs (RV.lt ds xs h)
theorem Rs.below {w w' : World} {S : Nat → Prop} {sz n : Nat} {A : Option Addr} {xs : List Value} (h : Rs w S sz A n xs) (hsz : 0 < sz) (hb : Below w.heap.size w w') : Rs w' S sz A n xs :=
  (h.lt hsz).keep (fun _ hp => hb.cell hp.2) (fun _ hb => hb.1)
theorem RV.belowB {w w' : World} {B : Nat} {ds : List Dat} {xs : List Value} (h : RV w (· < B) ds xs) (hb : Below B w w') : RV w' (· < B) ds xs := RV.keep (fun _ hp => hb.cell hp) (fun _ h => h) ds xs h
theorem Rs.belowB {w w' : World} {B sz n : Nat} {A : Option Addr} {xs : List Value} (h : Rs w (· < B) sz A n xs) (hb : Below B w w') : Rs w' (· < B) sz A n xs := h.keep (fun _ hp => hb.cell hp) (fun _ h => h)
theorem RV.wide {w : World} {S S' : Nat → Prop} {ds : List Dat} {xs : List Value} (h : RV w S ds xs) (hS : ∀ b, S b → S' b) : RV w S' ds xs := RV.keep (fun _ _ => rfl) hS ds xs h

theorem RV.nthF {w : World} {S : Nat → Prop} {α : Type} (f : α → List Dat) (sz : Nat) (hf : ∀ a, (f a).length = sz) : ∀ {l : List α} {xs : List Value} {k : Nat} (_ : RV w S (l.flatMap f) xs) (hk : k < l.length), RV w S (f l[k]) ((xs.drop (k * sz)).take sz)
  | [], _, _, _, hk => by simp at hk
  | v :: l, xs, 0, h, _ => by
    rw [List.flatMap_cons] at h
    obtain ⟨ys, zs, rfl, h1, h2⟩ := RV.split h
    have := h1.len
    rw [hf] at this
    simp only [Nat.zero_mul, List.drop_zero, List.getElem_cons_zero, ← this, List.take_left]
    exact h1
  | v :: l, xs, k + 1, h, hk => by
    rw [List.flatMap_cons] at h
    obtain ⟨ys, zs, rfl, h1, h2⟩ := RV.split h
    have hl := h1.len
    rw [hf] at hl
    have := RV.nthF f sz hf h2 (k := k) (by simpa using hk)
    rw [List.drop_append, List.drop_eq_nil_of_le (by rw [Nat.add_mul]; omega), List.nil_append, hl, show (k + 1) * sz - sz = k * sz by rw [Nat.add_mul]; omega]
    exact this
theorem flat_length {α : Type} (f : α → List Dat) (sz : Nat) (hf : ∀ a, (f a).length = sz) : ∀ l : List α, (l.flatMap f).length = l.length * sz
  | [] => by simp
  | v :: l => by rw [List.flatMap_cons, List.length_append, hf, flat_length f sz hf l, List.length_cons, Nat.add_mul]; omega

/-- the k-th element of a row: its cells -/
theorem row_at {w : World} {S T : Nat → Prop} {α : Type} (f : α → List Dat) (sz : Nat) (hf : ∀ a, (f a).length = sz) (hsz : 0 < sz) {A : Option Addr} {m : Nat} {xs : List Value} {l : List α} {k : Nat} (hr : Rs w S sz A m xs) (hv : RV w T (l.flatMap f) xs) (hk : k < m) :
    ∃ (ad : Addr) (a : α) (cs : List Value), A = some ad ∧ l[k]? = some a ∧ l.length = m ∧ RV w T (f a) cs ∧ ∀ i u, cs[i]? = some u → w.cell? (ad.add (k * sz + i)) = some u := by
  have hlen := hv.len
  rw [flat_length f sz hf, hr.1] at hlen
  have hm : m = l.length := Nat.eq_of_mul_eq_mul_right hsz hlen
  have hkl : k < l.length := by omega
  obtain ⟨ad, rfl, _, hc⟩ := hr.2 (by omega)
  refine ⟨ad, l[k], (xs.drop (k * sz)).take sz, rfl, List.getElem?_eq_getElem hkl, hm.symm, RV.nthF f sz hf hv hkl, fun i u hu => hc _ _ ?_⟩
  rw [List.getElem?_take] at hu
  split at hu
  · rw [List.getElem?_drop] at hu; exact hu
  · cases hu
theorem row_len {w : World} {S T : Nat → Prop} {α : Type} (f : α → List Dat) (sz : Nat) (hf : ∀ a, (f a).length = sz) (hsz : 0 < sz) {A : Option Addr} {m : Nat} {xs : List Value} {l : List α} (hr : Rs w S sz A m xs) (hv : RV w T (l.flatMap f) xs) : l.length = m := by
  have hlen := hv.len
  rw [flat_length f sz hf, hr.1] at hlen
  exact (Nat.eq_of_mul_eq_mul_right hsz hlen).symm
/-- a cell behind the first of an element, as the walk spells its place -/
theorem cell_next {w : World} {ad : Addr} {b i : Nat} {u : Value} (h : w.cell? (ad.add (b + (i + 1))) = some u) : w.cell? { block := (ad.add b).block, off := (ad.add b).off + (i + 1) } = some u := by
  rw [← add_succ' (ad.add b) i, add_add']; exact h

end Go.Proofs.Ytdajeoifmfbgkaa
