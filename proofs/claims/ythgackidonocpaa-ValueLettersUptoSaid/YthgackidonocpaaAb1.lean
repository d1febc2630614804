/-
  Abstract states of a walk: trees for what only is read, boxes and rows for what the call itself makes. Nothing of the program is named here.
-/
import Derived.Test.YthgackidonocpaaMem
namespace Go.Proofs.Ythgackidonocpaa
open Go.RowKit

/-- what a value reads as; memory that is never written any more -/
inductive T where
  | lit (v : Value)
  | row (n sz : Nat) (cs : List T)
  | agg (cs : List T)
  | tup (cs : List T)
  | fn (f : Fn) (cap : List T)
  | pin (cs : List T) (off : Nat)

abbrev Mm := Addr → Option Value
def At (M : Mm) (ad : Addr) (xs : List Value) : Prop := ∀ j x, xs[j]? = some x → M (ad.add j) = some x

mutual
def RT (M : Mm) : T → Value → Prop
  | .lit v, u => u = v
  | .row n sz cs, u => ∃ (A : Option Addr) (c : Nat) (xs : List Value), u = .slice A n c ∧ n ≤ c ∧ n ≤ maxLen ∧ 0 < sz ∧ xs.length = n * sz ∧ (0 < n → ∃ ad, A = some ad ∧ At M ad xs) ∧ RTs M cs xs
  | .agg cs, u => ∃ xs : List Value, u = .agg xs.toArray ∧ RTs M cs xs
  | .tup cs, u => ∃ xs : List Value, u = .tuple xs.toArray ∧ RTs M cs xs
  | .fn f cap, u => ∃ xs : List Value, u = .func f #[] xs.toArray ∧ RTs M cap xs
  | .pin cs off, u => ∃ (ad : Addr) (xs : List Value), u = .pointer (some (ad.add off)) ∧ At M ad xs ∧ RTs M cs xs
def RTs (M : Mm) : List T → List Value → Prop
  | [], xs => xs = []
  | t :: ts, xs => ∃ (x : Value) (r : List Value), xs = x :: r ∧ RT M t x ∧ RTs M ts r
end

/-- more memory, what is new from block B on -/
def Ext (B : Nat → Prop) (M M' : Mm) : Prop := (∀ p v, M p = some v → M' p = some v) ∧ ∀ p v, M' p = some v → M p = some v ∨ B p.block
def fr (B : Nat) (b : Nat) : Prop := B ≤ b
def Sub (M M' : Mm) : Prop := ∀ p v, M p = some v → M' p = some v
theorem Sub.refl (M : Mm) : Sub M M := fun _ _ h => h
theorem Sub.trans {M M' M'' : Mm} (h : Sub M M') (h' : Sub M' M'') : Sub M M'' := fun p v hp => h' p v (h p v hp)
theorem Ext.sub {B : Nat → Prop} {M M' : Mm} (h : Ext B M M') : Sub M M' := h.1
theorem Ext.refl (B : Nat → Prop) (M : Mm) : Ext B M M := ⟨fun _ _ h => h, fun _ _ h => .inl h⟩
theorem Ext.trans {B : Nat → Prop} {M M' M'' : Mm} (h : Ext B M M') (h' : Ext B M' M'') : Ext B M M'' :=
  ⟨fun p v hp => h'.1 p v (h.1 p v hp), fun p v hp => (h'.2 p v hp).elim (fun h1 => h.2 p v h1) .inr⟩
theorem Ext.to {B B' : Nat → Prop} {M M' : Mm} (h : Ext B M M') (hB : ∀ b, B b → B' b) : Ext B' M M' := ⟨h.1, fun p v hp => (h.2 p v hp).imp id (hB _)⟩

theorem At.mono {M M' : Mm} {ad : Addr} {xs : List Value} (h : At M ad xs) (hs : Sub M M') : At M' ad xs := fun j x hx => hs _ _ (h j x hx)
mutual
theorem RT.mono {M M' : Mm} (hs : Sub M M') : ∀ (t : T) (u : Value), RT M t u → RT M' t u
  | .lit v, u, h => by simp only [RT] at h ⊢; exact h
  | .row n sz cs, u, h => by
    simp only [RT] at h ⊢
    obtain ⟨A, c, xs, h1, h2, h3, h4, h5, h6, h7⟩ := h
    refine ⟨A, c, xs, h1, h2, h3, h4, h5, fun hn => ?_, RTs.mono hs cs xs h7⟩
    obtain ⟨ad, e, ha⟩ := h6 hn
    exact ⟨ad, e, ha.mono hs⟩
  | .agg cs, u, h => by
    simp only [RT] at h ⊢
    obtain ⟨xs, h1, h2⟩ := h
    exact ⟨xs, h1, RTs.mono hs cs xs h2⟩
  | .tup cs, u, h => by
    simp only [RT] at h ⊢
    obtain ⟨xs, h1, h2⟩ := h
    exact ⟨xs, h1, RTs.mono hs cs xs h2⟩
  | .fn f cap, u, h => by
    simp only [RT] at h ⊢
    obtain ⟨xs, h1, h2⟩ := h
    exact ⟨xs, h1, RTs.mono hs cap xs h2⟩
  | .pin cs off, u, h => by
    simp only [RT] at h ⊢
    obtain ⟨ad, xs, h1, h2, h3⟩ := h
    exact ⟨ad, xs, h1, h2.mono hs, RTs.mono hs cs xs h3⟩
theorem RTs.mono {M M' : Mm} (hs : Sub M M') : ∀ (ts : List T) (xs : List Value), RTs M ts xs → RTs M' ts xs
  | [], xs, h => by simp only [RTs] at h ⊢; exact h
  | t :: ts, xs, h => by
    simp only [RTs] at h ⊢
    obtain ⟨x, r, e, h1, h2⟩ := h
    exact ⟨x, r, e, RT.mono hs t x h1, RTs.mono hs ts r h2⟩
end
theorem RTs.len {M : Mm} : ∀ {ts : List T} {xs : List Value}, RTs M ts xs → xs.length = ts.length
  | [], _, h => by simp only [RTs] at h; simp [h]
  | t :: ts, _, h => by
    simp only [RTs] at h
    obtain ⟨x, r, rfl, _, h2⟩ := h
    simp [RTs.len h2]
theorem RTs.get {M : Mm} : ∀ {ts : List T} {xs : List Value} {j : Nat} {t : T}, RTs M ts xs → ts[j]? = some t → ∃ x, xs[j]? = some x ∧ RT M t x
  | [], _, _, _, _, hj => by simp at hj
  | t :: ts, _, 0, t', h, hj => by
    simp only [RTs] at h
    obtain ⟨x, r, rfl, h1, _⟩ := h
    obtain rfl : t = t' := by simpa using hj
    exact ⟨x, rfl, h1⟩
  | t :: ts, _, j + 1, t', h, hj => by
    simp only [RTs] at h
    obtain ⟨x, r, rfl, _, h2⟩ := h
    obtain ⟨y, h3, h4⟩ := RTs.get (j := j) (t := t') h2 (by simpa using hj)
    exact ⟨y, by simpa using h3, h4⟩
theorem RTs.app {M : Mm} : ∀ {ts us : List T} {xs ys : List Value}, RTs M ts xs → RTs M us ys → RTs M (ts ++ us) (xs ++ ys)
  | [], _, _, _, h, h' => by simp only [RTs] at h; subst h; simpa using h'
  | t :: ts, us, _, ys, h, h' => by
    simp only [RTs] at h
    obtain ⟨x, r, rfl, h1, h2⟩ := h
    simp only [List.cons_append, RTs]
    exact ⟨x, r ++ ys, rfl, h1, RTs.app h2 h'⟩
theorem RTs.drop {M : Mm} : ∀ {ts : List T} {xs : List Value} (k : Nat), RTs M ts xs → RTs M (ts.drop k) (xs.drop k)
  | _, _, 0, h => h
  | [], _, k + 1, h => by simp only [RTs] at h; subst h; simp [RTs]
  | t :: ts, _, k + 1, h => by
    simp only [RTs] at h
    obtain ⟨x, r, rfl, h1, h2⟩ := h
    simpa using RTs.drop k h2
theorem RTs.take {M : Mm} : ∀ {ts : List T} {xs : List Value} (k : Nat), RTs M ts xs → RTs M (ts.take k) (xs.take k)
  | _, _, 0, h => by simp [RTs]
  | [], _, k + 1, h => by simp only [RTs] at h; subst h; simp [RTs]
  | t :: ts, _, k + 1, h => by
    simp only [RTs] at h
    obtain ⟨x, r, rfl, h1, h2⟩ := h
    simp only [List.take_succ_cons, RTs]
    exact ⟨x, r.take k, rfl, h1, RTs.take k h2⟩

/-- what is known of memory is there -/
def MemOk (M : Mm) (w : World) : Prop := ∀ p v, M p = some v → w.cell? p = some v ∧ v.oneCell' = true

/-- a function with a body -/
def Enters (P : Program) (f : FuncId) : Prop := ∃ fn, P.funcs[f]? = some fn ∧ (fn.name == "runtime.NumGoroutine") = false ∧ fn.body.isNone = false
/-- the function, given values that read so, returns a value that reads so; nothing that was there is written -/
def AF (P : Program) (f : FuncId) (args : List T) (R : T → Prop) : Prop :=
  Enters P f ∧ ∀ (M : Mm) (w : World) (vs : List Value), MemOk M w → RTs M args vs →
    Calls P f vs.toArray w fun e w' => ∃ v r M', e = .returned v ∧ R r ∧ Ext (fr w.heap.size) M M' ∧ MemOk M' w' ∧ RT M' r v ∧ Below w.heap.size w w'

/-- what a slot holds; the first number of a pointer or a row of the call's own is a hint alone: where it stands among the blocks -/
inductive AV where
  | c (t : T)
  | agg (cs : List AV)
  | tup (cs : List AV)
  | fn (f : Fn) (cap : List AV)
  | ptr (i b off : Nat)
  | own (i : Nat) (v : Value)
  | eptr (i : Nat) (v : Value) (k : Nat)
  | junk

mutual
def RA (M : Mm) : AV → Value → Prop
  | .c t, u => RT M t u
  | .agg cs, u => ∃ xs : List Value, u = .agg xs.toArray ∧ RAs M cs xs
  | .tup cs, u => ∃ xs : List Value, u = .tuple xs.toArray ∧ RAs M cs xs
  | .fn f cap, u => ∃ xs : List Value, u = .func f #[] xs.toArray ∧ RAs M cap xs
  | .ptr _ b off, u => u = .pointer (some ⟨b, off, none⟩)
  | .own _ v, u => u = v ∧ v.oneCell' = true
  | .eptr _ v k, u => ∃ ad n c, v = .slice (some ad) n c ∧ u = .pointer (some (ad.add k))
  | .junk, _ => True
def RAs (M : Mm) : List AV → List Value → Prop
  | [], xs => xs = []
  | t :: ts, xs => ∃ (x : Value) (r : List Value), xs = x :: r ∧ RA M t x ∧ RAs M ts r
end
mutual
theorem RA.mono {M M' : Mm} (hs : Sub M M') : ∀ (t : AV) (u : Value), RA M t u → RA M' t u
  | .c t, u, h => by simp only [RA] at h ⊢; exact RT.mono hs t u h
  | .agg cs, u, h => by
    simp only [RA] at h ⊢
    obtain ⟨xs, h1, h2⟩ := h
    exact ⟨xs, h1, RAs.mono hs cs xs h2⟩
  | .tup cs, u, h => by
    simp only [RA] at h ⊢
    obtain ⟨xs, h1, h2⟩ := h
    exact ⟨xs, h1, RAs.mono hs cs xs h2⟩
  | .fn f cap, u, h => by
    simp only [RA] at h ⊢
    obtain ⟨xs, h1, h2⟩ := h
    exact ⟨xs, h1, RAs.mono hs cap xs h2⟩
  | .ptr i b off, u, h => by simp only [RA] at h ⊢; exact h
  | .own i v, u, h => by simp only [RA] at h ⊢; exact h
  | .eptr i v k, u, h => by simp only [RA] at h ⊢; exact h
  | .junk, u, h => by simp only [RA]
theorem RAs.mono {M M' : Mm} (hs : Sub M M') : ∀ (ts : List AV) (xs : List Value), RAs M ts xs → RAs M' ts xs
  | [], xs, h => by simp only [RAs] at h ⊢; exact h
  | t :: ts, xs, h => by
    simp only [RAs] at h ⊢
    obtain ⟨x, r, e, h1, h2⟩ := h
    exact ⟨x, r, e, RA.mono hs t x h1, RAs.mono hs ts r h2⟩
end
theorem RAs.len {M : Mm} : ∀ {ts : List AV} {xs : List Value}, RAs M ts xs → xs.length = ts.length
  | [], _, h => by simp only [RAs] at h; simp [h]
  | t :: ts, _, h => by
    simp only [RAs] at h
    obtain ⟨x, r, rfl, _, h2⟩ := h
    simp [RAs.len h2]
theorem RAs.get {M : Mm} : ∀ {ts : List AV} {xs : List Value} {j : Nat} {t : AV}, RAs M ts xs → ts[j]? = some t → ∃ x, xs[j]? = some x ∧ RA M t x
  | [], _, _, _, _, hj => by simp at hj
  | t :: ts, _, 0, t', h, hj => by
    simp only [RAs] at h
    obtain ⟨x, r, rfl, h1, _⟩ := h
    obtain rfl : t = t' := by simpa using hj
    exact ⟨x, rfl, h1⟩
  | t :: ts, _, j + 1, t', h, hj => by
    simp only [RAs] at h
    obtain ⟨x, r, rfl, _, h2⟩ := h
    obtain ⟨y, h3, h4⟩ := RAs.get (j := j) (t := t') h2 (by simpa using hj)
    exact ⟨y, by simpa using h3, h4⟩
theorem RAs.app {M : Mm} : ∀ {ts us : List AV} {xs ys : List Value}, RAs M ts xs → RAs M us ys → RAs M (ts ++ us) (xs ++ ys)
  | [], _, _, _, h, h' => by simp only [RAs] at h; subst h; simpa using h'
  | t :: ts, us, _, ys, h, h' => by
    simp only [RAs] at h
    obtain ⟨x, r, rfl, h1, h2⟩ := h
    simp only [List.cons_append, RAs]
    exact ⟨x, r ++ ys, rfl, h1, RAs.app h2 h'⟩
theorem RAs.drop {M : Mm} : ∀ {ts : List AV} {xs : List Value} (k : Nat), RAs M ts xs → RAs M (ts.drop k) (xs.drop k)
  | _, _, 0, h => h
  | [], _, k + 1, h => by simp only [RAs] at h; subst h; simp [RAs]
  | t :: ts, _, k + 1, h => by
    simp only [RAs] at h
    obtain ⟨x, r, rfl, h1, h2⟩ := h
    simpa using RAs.drop k h2
theorem RAs.take {M : Mm} : ∀ {ts : List AV} {xs : List Value} (k : Nat), RAs M ts xs → RAs M (ts.take k) (xs.take k)
  | _, _, 0, h => by simp [RAs]
  | [], _, k + 1, h => by simp only [RAs] at h; subst h; simp [RAs]
  | t :: ts, _, k + 1, h => by
    simp only [RAs] at h
    obtain ⟨x, r, rfl, h1, h2⟩ := h
    simp only [List.take_succ_cons, RAs]
    exact ⟨x, r.take k, rfl, h1, RAs.take k h2⟩
theorem RAs.set {M : Mm} : ∀ {ts : List AV} {xs : List Value} (k : Nat) {t : AV} {x : Value}, RAs M ts xs → RA M t x → RAs M (ts.set k t) (xs.set k x)
  | [], _, _, _, _, h, _ => by simp only [RAs] at h; subst h; simp [RAs]
  | a :: ts, _, 0, _, _, h, ht => by
    simp only [RAs] at h
    obtain ⟨x, r, rfl, h1, h2⟩ := h
    simp only [List.set_cons_zero, RAs]
    exact ⟨_, _, rfl, ht, h2⟩
  | a :: ts, _, k + 1, _, _, h, ht => by
    simp only [RAs] at h
    obtain ⟨x, r, rfl, h1, h2⟩ := h
    simp only [List.set_cons_succ, RAs]
    exact ⟨_, _, rfl, h1, RAs.set k h2 ht⟩
theorem RAs.ofT {M : Mm} : ∀ {ts : List T} {xs : List Value}, RTs M ts xs → RAs M (ts.map .c) xs
  | [], _, h => by simp only [RTs] at h; simp [h, RAs]
  | t :: ts, _, h => by
    simp only [RTs] at h
    obtain ⟨x, r, rfl, h1, h2⟩ := h
    simp only [List.map_cons, RAs, RA]
    exact ⟨x, r, rfl, h1, RAs.ofT h2⟩
theorem RAs.toT {M : Mm} : ∀ {ts : List T} {xs : List Value}, RAs M (ts.map .c) xs → RTs M ts xs
  | [], _, h => by simp only [List.map_nil, RAs] at h; simp [h, RTs]
  | t :: ts, _, h => by
    simp only [List.map_cons, RAs, RA] at h
    obtain ⟨x, r, rfl, h1, h2⟩ := h
    simp only [RTs]
    exact ⟨x, r, rfl, h1, RAs.toT h2⟩

/-- a block of the call's own: a variable, or a row that may grow -/
inductive Blk where
  | box (b : Nat) (t : TypeId) (cs : List AV)
  | row (v : Value) (e : TypeId) (sz n : Nat) (cs : List T)
  | mp (b : Nat) (es : List (Value × T))
  | dead
def Blk.blk : Blk → Option Nat
  | .box b _ _ => some b
  | .row v _ _ _ _ => v.ownBlock
  | .mp b _ => some b
  | .dead => none
def OneAll (xs : List Value) : Prop := ∀ x ∈ xs, x.oneCell' = true
def BlkOk (M : Mm) (w : World) : Blk → Prop
  | .box b t cs => ∃ xs : List Value, w.heap[b]? = some (.cells xs.toArray t) ∧ RAs M cs xs ∧ OneAll xs
  | .row v e sz n cs => ∃ xs : List Value, w.ownsRow 0 e sz v n xs ∧ RTs M cs xs ∧ OneAll xs ∧ 0 < sz
  | .mp b es => ∃ (l : List MapEntry) (clock : Nat), w.heap[b]? = some (.map l.toArray clock) ∧ l.map (·.key) = es.map (·.1) ∧ RTs M (es.map (·.2)) (l.map (·.val))
  | .dead => True

/-- from which world on, and which of its blocks may be written -/
structure Frm where
  w0 : World
  X : Nat → Prop
  M0 : Mm
def Frm.may (F : Frm) (b : Nat) : Prop := F.X b ∨ F.w0.heap.size ≤ b
theorem Ext.low {F : Frm} {B : Nat} {M M' : Mm} (h : Ext (fr B) M M') (hB : F.w0.heap.size ≤ B) : Ext F.may M M' := h.to fun _ hb => .inr (Nat.le_trans hB hb)
structure Keeps (F : Frm) (w : World) : Prop where
  os : w.os = F.w0.os
  tape : w.tape = F.w0.tape
  output : w.output = F.w0.output
  size : F.w0.heap.size ≤ w.heap.size
  block : ∀ b, b < F.w0.heap.size → ¬ F.X b → w.heap[b]? = F.w0.heap[b]?

structure HeapOk (F : Frm) (M : Mm) (hp : List Blk) (w : World) : Prop where
  mem : MemOk M w
  ext : Ext F.may F.M0 M
  frm : Keeps F w
  at_ : ∀ (i : Nat) (x : Blk), hp[i]? = some x → BlkOk M w x
  sep : ∀ (i j : Nat) (x y : Blk) (b : Nat), hp[i]? = some x → hp[j]? = some y → x.blk = some b → y.blk = some b → i = j
  out : ∀ (i : Nat) (x : Blk) (b : Nat), hp[i]? = some x → x.blk = some b → F.may b ∧ ∀ p : Addr, p.block = b → M p = none

theorem BlkOk.keep {M M' : Mm} {w w' : World} {x : Blk} (h : BlkOk M w x) (hs : Sub M M') (hb : ∀ b, x.blk = some b → b < w.heap.size → w'.heap[b]? = w.heap[b]?) : BlkOk M' w' x := by
  cases x with
  | box b t cs =>
    obtain ⟨xs, h1, h2, h3⟩ := h
    exact ⟨xs, by rw [hb b rfl (Array.getElem?_eq_some_iff.1 h1).1]; exact h1, RAs.mono hs _ _ h2, h3⟩
  | row v e sz n cs =>
    obtain ⟨xs, h1, h2, h3, h4⟩ := h
    refine ⟨xs, ⟨h1.1, ?_⟩, RTs.mono hs _ _ h2, h3, h4⟩
    rcases h1.2 with hn | ⟨g, cap, cur, rfl, hg, hh, rest⟩
    · exact .inl hn
    · exact .inr ⟨g, cap, cur, rfl, hg, by rw [hb g rfl (Array.getElem?_eq_some_iff.1 hh).1]; exact hh, rest⟩
  | mp b es =>
    obtain ⟨l, clock, h1, h2, h3⟩ := h
    exact ⟨l, clock, by rw [hb b rfl (Array.getElem?_eq_some_iff.1 h1).1]; exact h1, h2, RTs.mono hs _ _ h3⟩
  | dead => trivial
theorem BlkOk.lt {M : Mm} {w : World} {x : Blk} (h : BlkOk M w x) {b : Nat} (hb : x.blk = some b) : b < w.heap.size := by
  cases x with
  | box b' t cs =>
    obtain ⟨xs, h1, _⟩ := h
    obtain rfl : b' = b := by simpa [Blk.blk] using hb
    exact (Array.getElem?_eq_some_iff.1 h1).1
  | row v e sz n cs =>
    obtain ⟨xs, h1, _⟩ := h
    rcases h1.2 with ⟨rfl, _⟩ | ⟨g, cap, cur, rfl, hg, hh, rest⟩
    · simp [Blk.blk, Value.ownBlock] at hb
    · obtain rfl : g = b := by simpa [Blk.blk, Value.ownBlock] using hb
      exact (Array.getElem?_eq_some_iff.1 hh).1
  | mp b' es =>
    obtain ⟨l, clock, h1, _⟩ := h
    obtain rfl : b' = b := by simpa [Blk.blk] using hb
    exact (Array.getElem?_eq_some_iff.1 h1).1
  | dead => simp [Blk.blk] at hb

/-- one step: the block of the i-th item may be written, memory may be added -/
theorem HeapOk.step {F : Frm} {M M' : Mm} {hp hp' : List Blk} {w w' : World} (h : HeapOk F M hp w) (i : Nat)
    (hos : w'.os = w.os) (htape : w'.tape = w.tape) (hout : w'.output = w.output) (hsz : w.heap.size ≤ w'.heap.size)
    (hblk : ∀ b, b < w.heap.size → (∀ x, hp[i]? = some x → x.blk ≠ some b) → w'.heap[b]? = w.heap[b]?)
    (hM : Ext (fr w.heap.size) M M') (hnew : ∀ p v, M' p = some v → M p = none → w'.cell? p = some v ∧ v.oneCell' = true)
    (hl : ∀ j : Nat, j ≠ i → hp'[j]? = hp[j]?) (hi : ∀ x', hp'[i]? = some x' → BlkOk M' w' x' ∧ ∀ b, x'.blk = some b → (∃ x, hp[i]? = some x ∧ x.blk = some b) ∨ (w.heap.size ≤ b ∧ ∀ p : Addr, p.block = b → M' p = none)) :
    HeapOk F M' hp' w' := by
  have hkeep : ∀ j x, hp[j]? = some x → j ≠ i → ∀ b, x.blk = some b → b < w.heap.size → w'.heap[b]? = w.heap[b]? := by
    intro j x hx hj b hb hlt
    refine hblk b hlt fun y hy hyb => hj (h.sep j i x y b hx hy hb hyb)
  have hMnone : ∀ b, b < w.heap.size → (∀ p : Addr, p.block = b → M p = none) → ∀ p : Addr, p.block = b → M' p = none := by
    intro b hb hp p hpb
    cases hc : M' p with
    | none => rfl
    | some v =>
      rcases hM.2 p v hc with h1 | h1
      · rw [hp p hpb] at h1; cases h1
      · unfold fr at h1; omega
  refine ⟨?_, h.ext.trans (hM.low h.frm.size), ?_, ?_, ?_, ?_⟩
  · intro p v hp
    cases hc : M p with
    | none => exact hnew p v hp hc
    | some u =>
      have hu := hM.1 p u hc
      rw [hp] at hu
      obtain rfl : v = u := by injection hu
      obtain ⟨h1, h2⟩ := h.mem p v hc
      refine ⟨?_, h2⟩
      have hlt := World.block_lt_of_cell? w p h1
      rw [World.cell?_of_block (w := w) (hblk p.block hlt fun x hx hxb => ?_)]
      · exact h1
      · have := (h.out i x p.block hx hxb).2 p rfl
        rw [hc] at this; cases this
  · refine ⟨hos.trans h.frm.os, htape.trans h.frm.tape, hout.trans h.frm.output, Nat.le_trans h.frm.size hsz, fun b hb hX => ?_⟩
    rw [hblk b (Nat.lt_of_lt_of_le hb h.frm.size) fun x hx hxb => ?_]
    · exact h.frm.block b hb hX
    · rcases (h.out i x b hx hxb).1 with h1 | h1
      · exact hX h1
      · omega
  · intro j x hx
    by_cases hj : j = i
    · subst hj; exact (hi x hx).1
    · rw [hl j hj] at hx
      exact (h.at_ j x hx).keep hM.sub (hkeep j x hx hj)
  · intro j k x y b hx hy hxb hyb
    by_cases hj : j = i
    · by_cases hk : k = i
      · rw [hj, hk]
      · subst hj
        rw [hl k hk] at hy
        rcases (hi x hx).2 b hxb with ⟨z, hz, hzb⟩ | ⟨h1, _⟩
        · exact h.sep j k z y b hz hy hzb hyb
        · have := (h.at_ k y hy).lt hyb; omega
    · by_cases hk : k = i
      · subst hk
        rw [hl j hj] at hx
        rcases (hi y hy).2 b hyb with ⟨z, hz, hzb⟩ | ⟨h1, _⟩
        · exact h.sep j k x z b hx hz hxb hzb
        · have := (h.at_ j x hx).lt hxb; omega
      · rw [hl j hj] at hx; rw [hl k hk] at hy
        exact h.sep j k x y b hx hy hxb hyb
  · intro j x b hx hxb
    by_cases hj : j = i
    · subst hj
      rcases (hi x hx).2 b hxb with ⟨z, hz, hzb⟩ | ⟨h1, h2⟩
      · obtain ⟨h3, h4⟩ := h.out j z b hz hzb
        exact ⟨h3, hMnone b ((h.at_ j z hz).lt hzb) h4⟩
      · exact ⟨.inr (Nat.le_trans h.frm.size h1), h2⟩
    · rw [hl j hj] at hx
      obtain ⟨h3, h4⟩ := h.out j x b hx hxb
      exact ⟨h3, hMnone b ((h.at_ j x hx).lt hxb) h4⟩

/-- nothing but the count of draws -/
theorem HeapOk.drew {F : Frm} {M : Mm} {hp : List Blk} {w : World} (h : HeapOk F M hp w) : HeapOk F M hp { w with drawn := w.drawn + 1 } :=
  ⟨h.mem, h.ext, ⟨h.frm.os, h.frm.tape, h.frm.output, h.frm.size, h.frm.block⟩, fun i x hx => (h.at_ i x hx).keep (Sub.refl _) fun _ _ _ => rfl, h.sep, h.out⟩

structure AS where
  tmps : Nat → AV
  hp : List Blk
  N : Nat
/-- a slot is written; the blocks are these now -/
def AS.st (σ : AS) (d : Option Tmp) (v : AV) (hp' : List Blk) : AS :=
  ⟨match d with | none => σ.tmps | some d => fun i => cond (Nat.beq i d && Nat.blt d σ.N) v (σ.tmps i), hp', σ.N⟩
def AS.ev (σ : AS) : Operand → AV
  | .tmp t => σ.tmps t
  | .const v => .c (.lit v)
  | .global g => .c (.lit (.pointer (some ⟨g, 0, none⟩)))
  | .func f => .fn (.func f) []

structure Rep (F : Frm) (M : Mm) (σ : AS) (a : Act) (w : World) : Prop where
  tmps : ∀ i, RA M (σ.tmps i) (a.tmps.getD i undef)
  size : a.tmps.size = σ.N
  defers : a.defers = []
  heap : HeapOk F M σ.hp w

theorem Rep.ev {F : Frm} {M : Mm} {σ : AS} {a : Act} {w : World} (h : Rep F M σ a w) (x : Operand) : RA M (σ.ev x) (a.eval x) := by
  cases x with
  | tmp t => exact h.tmps t
  | const v => simp only [AS.ev, Act.eval, RA, RT]
  | global g => simp only [AS.ev, Act.eval, RA, RT]
  | func f => simp only [AS.ev, Act.eval, RA, RAs]; exact ⟨[], rfl, rfl⟩
theorem Rep.st {F : Frm} {M M' : Mm} {σ : AS} {a : Act} {w w' : World} (h : Rep F M σ a w) (hs : Sub M M') {hp' : List Blk} (hh : HeapOk F M' hp' w') (d : Option Tmp) {v : AV} {u : Value} (hv : RA M' v u) :
    Rep F M' (σ.st d v hp') (a.put d u) w' := by
  cases d with
  | none => exact ⟨fun i => RA.mono hs _ _ (h.tmps i), h.size, h.defers, hh⟩
  | some d =>
    refine ⟨fun i => ?_, by simp [Act.put, AS.st, h.size], h.defers, hh⟩
    simp only [AS.st, Act.put, Array.getD_eq_getD_getElem?, Array.getElem?_setIfInBounds]
    by_cases hi : d = i
    · subst hi
      by_cases hd : d < σ.N
      · have : Nat.blt d σ.N = true := Nat.ble_eq_true_of_le hd
        rw [if_pos rfl, if_pos (by rw [h.size]; exact hd), this, Nat.beq_refl]
        exact hv
      · have hbl : Nat.blt d σ.N = false := by
          cases hc : Nat.blt d σ.N with
          | false => rfl
          | true => exact absurd (Nat.le_of_ble_eq_true hc) hd
        have := RA.mono hs _ _ (h.tmps d)
        rw [if_pos rfl, if_neg (by rw [h.size]; exact hd), hbl, Bool.and_false]
        have hn : a.tmps.getD d undef = undef := by simp [Array.getD_eq_getD_getElem?, h.size, hd]
        rw [hn] at this
        exact this
    · have hb : Nat.beq i d = false := by
        cases hc : Nat.beq i d with
        | false => rfl
        | true => exact absurd (Nat.eq_of_beq_eq_true hc).symm hi
      rw [if_neg hi, hb]
      have := RA.mono hs _ _ (h.tmps i)
      simpa [Array.getD_eq_getD_getElem?] using this

end Go.Proofs.Ythgackidonocpaa
