/-
  Texts of this proof, part 2: Ab1 Ab2 Ab3 Ab4.
-/
import Derived.Test.YthloejmmgdjimaaDoorQSessionSays1
import Derived.Deep.LoopGhost
import Derived.Laws.CopyRow
import Derived.Lib.AppendStr
import Derived.Lib.AppendZerosOnto
import Derived.Lib.MinMax
import Derived.WideKeyEntry
namespace Go.Proofs.YthloejmmgdjimaaDoor
open Go.RowKit
/-- what a value reads asq; memory that is never written any more -/
inductive T where
  | lit (v : Value)
  | row (n sz : Nat) (cs : List T)
  | agg (cs : List T)
  | tup (cs : List T)
  | fn (f : Fn) (cap : List T)
  | pin (cs : List T) (off : Nat)
def At (M : Mm) (ad : Addr) (xs : List Value) : Prop := ∀ j x, xs[j]? = some x → M (ad.add j) = some x
mutual
def RT (M : Mm) : T → Value → Prop
  | .lit v, u => u = v
  | .row n sz cs, u => ∃ (A : Option Addr) (c : Nat) (xs : List Value), u = .slice A n c ∧ n ≤ c ∧ n ≤ maxLen ∧ 0 < sz ∧ xs.length = n * sz ∧ (0 < n → ∃ ad, A = some ad ∧ At M ad xs) ∧ RTs M cs xs
  | .agg cs, u => ∃ xs : List Value, u = .agg xs.toArray ∧ RTs M cs xs
  | .tup cs, u => ∃ xs : List Value, u = .tuple xs.toArray ∧ RTs M cs xs
  | .fn f cap, u => ∃ xs : List Value, u = .func f #[] xs.toArray ∧ RTs M cap xs
  | .pin cs off, u => ∃ (ad : Addr) (xs : List Value), u = .pointer (some (ad.add off)) ∧ At M ad xs ∧ RTs M cs xs
def RTs (M : Mm) : List T → List Value → Prop
  | [], xs => xs = []
  | t :: ts, xs => ∃ (x : Value) (r : List Value), xs = x :: r ∧ RT M t x ∧ RTs M ts r
end
/-- more memory, what is new from block B on -/
def Ext (B : Nat → Prop) (M M' : Mm) : Prop := (∀ p v, M p = some v → M' p = some v) ∧ ∀ p v, M' p = some v → M p = some v ∨ B p.block
def fr (B : Nat) (b : Nat) : Prop := B ≤ b
def Sub (M M' : Mm) : Prop := ∀ p v, M p = some v → M' p = some v
theorem Sub.refl (M : Mm) : Sub M M := fun _ _ h => h
theorem Sub.trans {M M' M'' : Mm} (h : Sub M M') (h' : Sub M' M'') : Sub M M'' := fun p v hp => h' p v (h p v hp)
theorem Ext.sub {B : Nat → Prop} {M M' : Mm} (h : Ext B M M') : Sub M M' := h.1
theorem Ext.refl (B : Nat → Prop) (M : Mm) : Ext B M M := ⟨fun _ _ h => h, fun _ _ h => .inl h⟩
theorem Ext.trans {B : Nat → Prop} {M M' M'' : Mm} (h : Ext B M M') (h' : Ext B M' M'') : Ext B M M'' :=
  ⟨fun p v hp => h'.1 p v (h.1 p v hp), fun p v hp => (h'.2 p v hp).elim (fun h1 => h.2 p v h1) .inr⟩
theorem Ext.to {B B' : Nat → Prop} {M M' : Mm} (h : Ext B M M') (hB : ∀ b, B b → B' b) : Ext B' M M' := ⟨h.1, fun p v hp => (h.2 p v hp).imp id (hB _)⟩
theorem At.mono {M M' : Mm} {ad : Addr} {xs : List Value} (h : At M ad xs) (hs : Sub M M') : At M' ad xs := fun j x hx => hs _ _ (h j x hx)
mutual
theorem RT.mono {M M' : Mm} (hs : Sub M M') : ∀ (t : T) (u : Value), RT M t u → RT M' t u
  | .lit v, u, h => by simp only [RT] at h ⊢; exact h
  | .row n sz cs, u, h => by
    simp only [RT] at h ⊢
    obtain ⟨A, c, xs, h1, h2, h3, h4, h5, h6, h7⟩ := h
    refine ⟨A, c, xs, h1, h2, h3, h4, h5, fun hn => ?_, RTs.mono hs cs xs h7⟩
    obtain ⟨ad, e, ha⟩ := h6 hn
    exact ⟨ad, e, ha.mono hs⟩
  | .agg cs, u, h => by
    simp only [RT] at h ⊢
    obtain ⟨xs, h1, h2⟩ := h
    exact ⟨xs, h1, RTs.mono hs cs xs h2⟩
  | .tup cs, u, h => by
    simp only [RT] at h ⊢
    obtain ⟨xs, h1, h2⟩ := h
    exact ⟨xs, h1, RTs.mono hs cs xs h2⟩
  | .fn f cap, u, h => by
    simp only [RT] at h ⊢
    obtain ⟨xs, h1, h2⟩ := h
    exact ⟨xs, h1, RTs.mono hs cap xs h2⟩
  | .pin cs off, u, h => by
    simp only [RT] at h ⊢
    obtain ⟨ad, xs, h1, h2, h3⟩ := h
    exact ⟨ad, xs, h1, h2.mono hs, RTs.mono hs cs xs h3⟩
theorem RTs.mono {M M' : Mm} (hs : Sub M M') : ∀ (ts : List T) (xs : List Value), RTs M ts xs → RTs M' ts xs
  | [], xs, h => by simp only [RTs] at h ⊢; exact h
  | t :: ts, xs, h => by
    simp only [RTs] at h ⊢
    obtain ⟨x, r, e, h1, h2⟩ := h
    exact ⟨x, r, e, RT.mono hs t x h1, RTs.mono hs ts r h2⟩
end
theorem RTs.len {M : Mm} : ∀ {ts : List T} {xs : List Value}, RTs M ts xs → xs.length = ts.length
  | [], _, h => by simp only [RTs] at h; simp [h]
  | t :: ts, _, h => by
    simp only [RTs] at h
    obtain ⟨x, r, rfl, _, h2⟩ := h
    simp [RTs.len h2]
theorem RTs.get {M : Mm} : ∀ {ts : List T} {xs : List Value} {j : Nat} {t : T}, RTs M ts xs → ts[j]? = some t → ∃ x, xs[j]? = some x ∧ RT M t x
  | [], _, _, _, _, hj => by simp at hj
  | t :: ts, _, 0, t', h, hj => by
    simp only [RTs] at h
    obtain ⟨x, r, rfl, h1, _⟩ := h
    obtain rfl : t = t' := by simpa using hj
    exact ⟨x, rfl, h1⟩
  | t :: ts, _, j + 1, t', h, hj => by
    simp only [RTs] at h
    obtain ⟨x, r, rfl, _, h2⟩ := h
    obtain ⟨y, h3, h4⟩ := RTs.get (j := j) (t := t') h2 (by simpa using hj)
    exact ⟨y, by simpa using h3, h4⟩
theorem RTs.app {M : Mm} : ∀ {ts us : List T} {xs ys : List Value}, RTs M ts xs → RTs M us ys → RTs M (ts ++ us) (xs ++ ys)
  | [], _, _, _, h, h' => by simp only [RTs] at h; subst h; simpa using h'
  | t :: ts, us, _, ys, h, h' => by
    simp only [RTs] at h
    obtain ⟨x, r, rfl, h1, h2⟩ := h
    simp only [List.cons_append, RTs]
    exact ⟨x, r ++ ys, rfl, h1, RTs.app h2 h'⟩
theorem RTs.drop {M : Mm} : ∀ {ts : List T} {xs : List Value} (k : Nat), RTs M ts xs → RTs M (ts.drop k) (xs.drop k)
  | _, _, 0, h => h
  | [], _, k + 1, h => by simp only [RTs] at h; subst h; simp [RTs]
  | t :: ts, _, k + 1, h => by
    simp only [RTs] at h
    obtain ⟨x, r, rfl, h1, h2⟩ := h
    simpa using RTs.drop k h2
theorem RTs.take {M : Mm} : ∀ {ts : List T} {xs : List Value} (k : Nat), RTs M ts xs → RTs M (ts.take k) (xs.take k)
  | _, _, 0, h => by simp [RTs]
  | [], _, k + 1, h => by simp only [RTs] at h; subst h; simp [RTs]
  | t :: ts, _, k + 1, h => by
    simp only [RTs] at h
    obtain ⟨x, r, rfl, h1, h2⟩ := h
    simp only [List.take_succ_cons, RTs]
    exact ⟨x, r.take k, rfl, h1, RTs.take k h2⟩
/-- what is known of memory is there -/
def MemOk (M : Mm) (w : World) : Prop := ∀ p v, M p = some v → w.cell? p = some v ∧ v.oneCell' = true
/-- a function with a body -/
def Enters (P : Program) (f : FuncId) : Prop := ∃ fn, P.funcs[f]? = some fn ∧ (fn.name == "runtime.NumGoroutine") = false ∧ fn.body.isNone = false
/-- the function, given values that read so, returns a value that reads so; nothing that was there is written -/
def AF (P : Program) (f : FuncId) (args : List T) (R : T → Prop) : Prop :=
  Enters P f ∧ ∀ (M : Mm) (w : World) (vs : List Value), Glob w → MemOk M w → RTs M args vs →
    Calls P f vs.toArray w fun e w' => ∃ v r M', e = .returned v ∧ R r ∧ Ext (fr w.heap.size) M M' ∧ MemOk M' w' ∧ RT M' r v ∧ Below w.heap.size w w'
/-- what a slot holds; the first number of a pointer or a row of the call's own is a hint alone: where it stands among the blocks -/
inductive AV where
  | c (t : T)
  | agg (cs : List AV)
  | tup (cs : List AV)
  | fn (f : Fn) (cap : List AV)
  | ptr (i b off : Nat)
  | own (i : Nat) (v : Value)
  | eptr (i : Nat) (v : Value) (k : Nat)
  | junk
mutual
def RA (M : Mm) : AV → Value → Prop
  | .c t, u => RT M t u
  | .agg cs, u => ∃ xs : List Value, u = .agg xs.toArray ∧ RAs M cs xs
  | .tup cs, u => ∃ xs : List Value, u = .tuple xs.toArray ∧ RAs M cs xs
  | .fn f cap, u => ∃ xs : List Value, u = .func f #[] xs.toArray ∧ RAs M cap xs
  | .ptr _ b off, u => u = .pointer (some ⟨b, off, none⟩)
  | .own _ v, u => u = v ∧ v.oneCell' = true
  | .eptr _ v k, u => ∃ ad n c, v = .slice (some ad) n c ∧ u = .pointer (some (ad.add k))
  | .junk, _ => True
def RAs (M : Mm) : List AV → List Value → Prop
  | [], xs => xs = []
  | t :: ts, xs => ∃ (x : Value) (r : List Value), xs = x :: r ∧ RA M t x ∧ RAs M ts r
end
mutual
theorem RA.mono {M M' : Mm} (hs : Sub M M') : ∀ (t : AV) (u : Value), RA M t u → RA M' t u
  | .c t, u, h => by simp only [RA] at h ⊢; exact RT.mono hs t u h
  | .agg cs, u, h => by
    simp only [RA] at h ⊢
    obtain ⟨xs, h1, h2⟩ := h
    exact ⟨xs, h1, RAs.mono hs cs xs h2⟩
  | .tup cs, u, h => by
    simp only [RA] at h ⊢
    obtain ⟨xs, h1, h2⟩ := h
    exact ⟨xs, h1, RAs.mono hs cs xs h2⟩
  | .fn f cap, u, h => by
    simp only [RA] at h ⊢
    obtain ⟨xs, h1, h2⟩ := h
    exact ⟨xs, h1, RAs.mono hs cap xs h2⟩
  | .ptr i b off, u, h => by simp only [RA] at h ⊢; exact h
  | .own i v, u, h => by simp only [RA] at h ⊢; exact h
  | .eptr i v k, u, h => by simp only [RA] at h ⊢; exact h
  | .junk, u, h => by simp only [RA]
theorem RAs.mono {M M' : Mm} (hs : Sub M M') : ∀ (ts : List AV) (xs : List Value), RAs M ts xs → RAs M' ts xs
  | [], xs, h => by simp only [RAs] at h ⊢; exact h
  | t :: ts, xs, h => by
    simp only [RAs] at h ⊢
    obtain ⟨x, r, e, h1, h2⟩ := h
    exact ⟨x, r, e, RA.mono hs t x h1, RAs.mono hs ts r h2⟩
end
theorem RAs.len {M : Mm} : ∀ {ts : List AV} {xs : List Value}, RAs M ts xs → xs.length = ts.length
  | [], _, h => by simp only [RAs] at h; simp [h]
  | t :: ts, _, h => by
    simp only [RAs] at h
    obtain ⟨x, r, rfl, _, h2⟩ := h
    simp [RAs.len h2]
theorem RAs.get {M : Mm} : ∀ {ts : List AV} {xs : List Value} {j : Nat} {t : AV}, RAs M ts xs → ts[j]? = some t → ∃ x, xs[j]? = some x ∧ RA M t x
  | [], _, _, _, _, hj => by simp at hj
  | t :: ts, _, 0, t', h, hj => by
    simp only [RAs] at h
    obtain ⟨x, r, rfl, h1, _⟩ := h
    obtain rfl : t = t' := by simpa using hj
    exact ⟨x, rfl, h1⟩
  | t :: ts, _, j + 1, t', h, hj => by
    simp only [RAs] at h
    obtain ⟨x, r, rfl, _, h2⟩ := h
    obtain ⟨y, h3, h4⟩ := RAs.get (j := j) (t := t') h2 (by simpa using hj)
    exact ⟨y, by simpa using h3, h4⟩
theorem RAs.app {M : Mm} : ∀ {ts us : List AV} {xs ys : List Value}, RAs M ts xs → RAs M us ys → RAs M (ts ++ us) (xs ++ ys)
  | [], _, _, _, h, h' => by simp only [RAs] at h; subst h; simpa using h'
  | t :: ts, us, _, ys, h, h' => by
    simp only [RAs] at h
    obtain ⟨x, r, rfl, h1, h2⟩ := h
    simp only [List.cons_append, RAs]
    exact ⟨x, r ++ ys, rfl, h1, RAs.app h2 h'⟩
theorem RAs.drop {M : Mm} : ∀ {ts : List AV} {xs : List Value} (k : Nat), RAs M ts xs → RAs M (ts.drop k) (xs.drop k)
  | _, _, 0, h => h
  | [], _, k + 1, h => by simp only [RAs] at h; subst h; simp [RAs]
  | t :: ts, _, k + 1, h => by
    simp only [RAs] at h
    obtain ⟨x, r, rfl, h1, h2⟩ := h
    simpa using RAs.drop k h2
theorem RAs.take {M : Mm} : ∀ {ts : List AV} {xs : List Value} (k : Nat), RAs M ts xs → RAs M (ts.take k) (xs.take k)
  | _, _, 0, h => by simp [RAs]
  | [], _, k + 1, h => by simp only [RAs] at h; subst h; simp [RAs]
  | t :: ts, _, k + 1, h => by
    simp only [RAs] at h
    obtain ⟨x, r, rfl, h1, h2⟩ := h
    simp only [List.take_succ_cons, RAs]
    exact ⟨x, r.take k, rfl, h1, RAs.take k h2⟩
theorem RAs.set {M : Mm} : ∀ {ts : List AV} {xs : List Value} (k : Nat) {t : AV} {x : Value}, RAs M ts xs → RA M t x → RAs M (ts.set k t) (xs.set k x)
  | [], _, _, _, _, h, _ => by simp only [RAs] at h; subst h; simp [RAs]
  | a :: ts, _, 0, _, _, h, ht => by
    simp only [RAs] at h
    obtain ⟨x, r, rfl, h1, h2⟩ := h
    simp only [List.set_cons_zero, RAs]
    exact ⟨_, _, rfl, ht, h2⟩
  | a :: ts, _, k + 1, _, _, h, ht => by
    simp only [RAs] at h
    obtain ⟨x, r, rfl, h1, h2⟩ := h
    simp only [List.set_cons_succ, RAs]
    exact ⟨_, _, rfl, h1, RAs.set k h2 ht⟩
theorem RAs.ofT {M : Mm} : ∀ {ts : List T} {xs : List Value}, RTs M ts xs → RAs M (ts.map .c) xs
  | [], _, h => by simp only [RTs] at h; simp [h, RAs]
  | t :: ts, _, h => by
    simp only [RTs] at h
    obtain ⟨x, r, rfl, h1, h2⟩ := h
    simp only [List.map_cons, RAs, RA]
    exact ⟨x, r, rfl, h1, RAs.ofT h2⟩
theorem RAs.toT {M : Mm} : ∀ {ts : List T} {xs : List Value}, RAs M (ts.map .c) xs → RTs M ts xs
  | [], _, h => by simp only [List.map_nil, RAs] at h; simp [h, RTs]
  | t :: ts, _, h => by
    simp only [List.map_cons, RAs, RA] at h
    obtain ⟨x, r, rfl, h1, h2⟩ := h
    simp only [RTs]
    exact ⟨x, r, rfl, h1, RAs.toT h2⟩
/-- a block of the call's own: a variable, or a row that may grow -/
inductive Blk where
  | box (b : Nat) (t : TypeId) (cs : List AV)
  | row (v : Value) (e : TypeId) (sz n : Nat) (cs : List T)
  | mpx (b : Nat) (es : List (Value × T)) (o : Option (List Nat × Nat))
  | it (b m : Nat) (st : List Nat) (c : Nat) (P : List Nat)
  | dead
/-- a map that nothing walks over -/
@[reducible, match_pattern] def Blk.mp (b : Nat) (es : List (Value × T)) : Blk := .mpx b es none
def Blk.blk : Blk → Option Nat
  | .box b _ _ => some b
  | .row v _ _ _ _ => v.ownBlock
  | .mpx b _ _ => some b
  | .it b _ _ _ _ => some b
  | .dead => none
/-- the stamps of a map's entries: all different, and behind the clock -/
def Stm (l : List MapEntry) (clock : Nat) : Prop := (l.map (·.born)).Nodup ∧ ∀ e ∈ l, e.born < clock
def OneAll (xs : List Value) : Prop := ∀ x ∈ xs, x.oneCell' = true
def BlkOk (M : Mm) (w : World) : Blk → Prop
  | .box b t cs => ∃ xs : List Value, w.heap[b]? = some (.cells xs.toArray t) ∧ RAs M cs xs ∧ OneAll xs
  | .row v e sz n cs => ∃ xs : List Value, OwnsO w e sz v n xs ∧ RTs M cs xs ∧ OneAll xs ∧ 0 < sz
  | .mpx b es o => ∃ (l : List MapEntry) (clock : Nat), w.heap[b]? = some (.map l.toArray clock) ∧ l.map (·.key) = es.map (·.1) ∧ RTs M (es.map (·.2)) (l.map (·.val)) ∧ Stm l clock ∧ ∀ s ∈ o, s = (l.map (·.born), clock)
  | .it b m st c P => w.heap[b]? = some (.mapIter (some m) c (P.map fun p => st.getD p 0).toArray c) ∧ ∀ p ∈ P, p < st.length
  | .dead => True
/-- from which world on, and which of its blocks may be written -/
structure Frm where
  w0 : World
  X : Nat → Prop
  M0 : Mm
  G : Glob w0
  GX : ∀ x ∈ globTab, ¬ X x.1
def Frm.may (F : Frm) (b : Nat) : Prop := F.X b ∨ F.w0.heap.size ≤ b
theorem Ext.low {F : Frm} {B : Nat} {M M' : Mm} (h : Ext (fr B) M M') (hB : F.w0.heap.size ≤ B) : Ext F.may M M' := h.to fun _ hb => .inr (Nat.le_trans hB hb)
structure Keeps (F : Frm) (w : World) : Prop where
  os : w.os = F.w0.os
  tape : w.tape = F.w0.tape
  output : w.output = F.w0.output
  size : F.w0.heap.size ≤ w.heap.size
  block : ∀ b, b < F.w0.heap.size → ¬ F.X b → w.heap[b]? = F.w0.heap[b]?
structure HeapOk (F : Frm) (M : Mm) (hp : List Blk) (w : World) : Prop where
  mem : MemOk M w
  ext : Ext F.may F.M0 M
  frm : Keeps F w
  at_ : ∀ (i : Nat) (x : Blk), hp[i]? = some x → BlkOk M w x
  sep : ∀ (i j : Nat) (x y : Blk) (b : Nat), hp[i]? = some x → hp[j]? = some y → x.blk = some b → y.blk = some b → i = j
  out : ∀ (i : Nat) (x : Blk) (b : Nat), hp[i]? = some x → x.blk = some b → F.may b ∧ ∀ p : Addr, p.block = b → M p = none
theorem HeapOk.glob {F : Frm} {M : Mm} {hp : List Blk} {w : World} (h : HeapOk F M hp w) : Glob w := fun x hx => let ⟨t, fr, e⟩ := F.G x hx; ⟨t, fr, by rw [h.frm.block x.1 (Array.getElem?_eq_some_iff.1 e).1 (F.GX x hx)]; exact e⟩
theorem BlkOk.keep {M M' : Mm} {w w' : World} {x : Blk} (h : BlkOk M w x) (hs : Sub M M') (hb : ∀ b, x.blk = some b → b < w.heap.size → w'.heap[b]? = w.heap[b]?) : BlkOk M' w' x := by
  cases x with
  | box b t cs =>
    obtain ⟨xs, h1, h2, h3⟩ := h
    exact ⟨xs, by rw [hb b rfl (Array.getElem?_eq_some_iff.1 h1).1]; exact h1, RAs.mono hs _ _ h2, h3⟩
  | row v e sz n cs =>
    obtain ⟨xs, h1, h2, h3, h4⟩ := h
    exact ⟨xs, h1.keep hb, RTs.mono hs _ _ h2, h3, h4⟩
  | mpx b es o =>
    obtain ⟨l, clock, h1, h2, h3, h4⟩ := h
    exact ⟨l, clock, by rw [hb b rfl (Array.getElem?_eq_some_iff.1 h1).1]; exact h1, h2, RTs.mono hs _ _ h3, h4⟩
  | it b m st c P =>
    obtain ⟨h1, h2⟩ := h
    exact ⟨by rw [hb b rfl (Array.getElem?_eq_some_iff.1 h1).1]; exact h1, h2⟩
  | dead => trivial
theorem BlkOk.lt {M : Mm} {w : World} {x : Blk} (h : BlkOk M w x) {b : Nat} (hb : x.blk = some b) : b < w.heap.size := by
  cases x with
  | box b' t cs =>
    obtain ⟨xs, h1, _⟩ := h
    obtain rfl : b' = b := by simpa [Blk.blk] using hb
    exact (Array.getElem?_eq_some_iff.1 h1).1
  | row v e sz n cs =>
    obtain ⟨xs, h1, _⟩ := h
    exact h1.lt hb
  | mpx b' es o =>
    obtain ⟨l, clock, h1, _⟩ := h
    obtain rfl : b' = b := by simpa [Blk.blk] using hb
    exact (Array.getElem?_eq_some_iff.1 h1).1
  | it b' m st c P =>
    obtain ⟨h1, h2⟩ := h
    obtain rfl : b' = b := by simpa [Blk.blk] using hb
    exact (Array.getElem?_eq_some_iff.1 h1).1
  | dead => simp [Blk.blk] at hb
/-- one step: the block of the i-th item may be written, memory may be added -/
theorem HeapOk.step {F : Frm} {M M' : Mm} {hp hp' : List Blk} {w w' : World} (h : HeapOk F M hp w) (i : Nat)
    (hos : w'.os = w.os) (htape : w'.tape = w.tape) (hout : w'.output = w.output) (hsz : w.heap.size ≤ w'.heap.size)
    (hblk : ∀ b, b < w.heap.size → (∀ x, hp[i]? = some x → x.blk ≠ some b) → w'.heap[b]? = w.heap[b]?)
    (hM : Ext (fr w.heap.size) M M') (hnew : ∀ p v, M' p = some v → M p = none → w'.cell? p = some v ∧ v.oneCell' = true)
    (hl : ∀ j : Nat, j ≠ i → hp'[j]? = hp[j]?) (hi : ∀ x', hp'[i]? = some x' → BlkOk M' w' x' ∧ ∀ b, x'.blk = some b → (∃ x, hp[i]? = some x ∧ x.blk = some b) ∨ (w.heap.size ≤ b ∧ ∀ p : Addr, p.block = b → M' p = none)) :
    HeapOk F M' hp' w' := by
  have hkeep : ∀ j x, hp[j]? = some x → j ≠ i → ∀ b, x.blk = some b → b < w.heap.size → w'.heap[b]? = w.heap[b]? := by
    intro j x hx hj b hb hlt
    refine hblk b hlt fun y hy hyb => hj (h.sep j i x y b hx hy hb hyb)
  have hMnone : ∀ b, b < w.heap.size → (∀ p : Addr, p.block = b → M p = none) → ∀ p : Addr, p.block = b → M' p = none := by
    intro b hb hp p hpb
    cases hc : M' p with
    | none => rfl
    | some v =>
      rcases hM.2 p v hc with h1 | h1
      · rw [hp p hpb] at h1; cases h1
      · unfold fr at h1; omega
  refine ⟨?_, h.ext.trans (hM.low h.frm.size), ?_, ?_, ?_, ?_⟩
  · intro p v hp
    cases hc : M p with
    | none => exact hnew p v hp hc
    | some u =>
      have hu := hM.1 p u hc
      rw [hp] at hu
      obtain rfl : v = u := by injection hu
      obtain ⟨h1, h2⟩ := h.mem p v hc
      refine ⟨?_, h2⟩
      have hlt := World.block_lt_of_cell? w p h1
      rw [World.cell?_of_block (w := w) (hblk p.block hlt fun x hx hxb => ?_)]
      · exact h1
      · have := (h.out i x p.block hx hxb).2 p rfl
        rw [hc] at this; cases this
  · refine ⟨hos.trans h.frm.os, htape.trans h.frm.tape, hout.trans h.frm.output, Nat.le_trans h.frm.size hsz, fun b hb hX => ?_⟩
    rw [hblk b (Nat.lt_of_lt_of_le hb h.frm.size) fun x hx hxb => ?_]
    · exact h.frm.block b hb hX
    · rcases (h.out i x b hx hxb).1 with h1 | h1
      · exact hX h1
      · omega
  · intro j x hx
    by_cases hj : j = i
    · subst hj; exact (hi x hx).1
    · rw [hl j hj] at hx
      exact (h.at_ j x hx).keep hM.sub (hkeep j x hx hj)
  · intro j k x y b hx hy hxb hyb
    by_cases hj : j = i
    · by_cases hk : k = i
      · rw [hj, hk]
      · subst hj
        rw [hl k hk] at hy
        rcases (hi x hx).2 b hxb with ⟨z, hz, hzb⟩ | ⟨h1, _⟩
        · exact h.sep j k z y b hz hy hzb hyb
        · have := (h.at_ k y hy).lt hyb; omega
    · by_cases hk : k = i
      · subst hk
        rw [hl j hj] at hx
        rcases (hi y hy).2 b hyb with ⟨z, hz, hzb⟩ | ⟨h1, _⟩
        · exact h.sep j k x z b hx hz hxb hzb
        · have := (h.at_ j x hx).lt hxb; omega
      · rw [hl j hj] at hx; rw [hl k hk] at hy
        exact h.sep j k x y b hx hy hxb hyb
  · intro j x b hx hxb
    by_cases hj : j = i
    · subst hj
      rcases (hi x hx).2 b hxb with ⟨z, hz, hzb⟩ | ⟨h1, h2⟩
      · obtain ⟨h3, h4⟩ := h.out j z b hz hzb
        exact ⟨h3, hMnone b ((h.at_ j z hz).lt hzb) h4⟩
      · exact ⟨.inr (Nat.le_trans h.frm.size h1), h2⟩
    · rw [hl j hj] at hx
      obtain ⟨h3, h4⟩ := h.out j x b hx hxb
      exact ⟨h3, hMnone b ((h.at_ j x hx).lt hxb) h4⟩
/-- nothing but the count of draws -/
theorem HeapOk.drew {F : Frm} {M : Mm} {hp : List Blk} {w : World} (h : HeapOk F M hp w) : HeapOk F M hp { w with drawn := w.drawn + 1 } :=
  ⟨h.mem, h.ext, ⟨h.frm.os, h.frm.tape, h.frm.output, h.frm.size, h.frm.block⟩, fun i x hx => (h.at_ i x hx).keep (Sub.refl _) fun _ _ _ => rfl, h.sep, h.out⟩
structure AS where
  tmps : Nat → AV
  hp : List Blk
  N : Nat
/-- a slot is written; the blocks are these now -/
def AS.st (σ : AS) (d : Option Tmp) (v : AV) (hp' : List Blk) : AS :=
  ⟨match d with | none => σ.tmps | some d => fun i => cond (Nat.beq i d && Nat.blt d σ.N) v (σ.tmps i), hp', σ.N⟩
def AS.ev (σ : AS) : Operand → AV
  | .tmp t => σ.tmps t
  | .const v => .c (.lit v)
  | .global g => .c (.lit (.pointer (some ⟨g, 0, none⟩)))
  | .func f => .fn (.func f) []
structure Rep (F : Frm) (M : Mm) (σ : AS) (a : Act) (w : World) : Prop where
  tmps : ∀ i, RA M (σ.tmps i) (a.tmps.getD i undef)
  size : a.tmps.size = σ.N
  defers : a.defers = []
  heap : HeapOk F M σ.hp w
theorem Rep.ev {F : Frm} {M : Mm} {σ : AS} {a : Act} {w : World} (h : Rep F M σ a w) (x : Operand) : RA M (σ.ev x) (a.eval x) := by
  cases x with
  | tmp t => exact h.tmps t
  | const v => simp only [AS.ev, Act.eval, RA, RT]
  | global g => simp only [AS.ev, Act.eval, RA, RT]
  | func f => simp only [AS.ev, Act.eval, RA, RAs]; exact ⟨[], rfl, rfl⟩
theorem Rep.st {F : Frm} {M M' : Mm} {σ : AS} {a : Act} {w w' : World} (h : Rep F M σ a w) (hs : Sub M M') {hp' : List Blk} (hh : HeapOk F M' hp' w') (d : Option Tmp) {v : AV} {u : Value} (hv : RA M' v u) :
    Rep F M' (σ.st d v hp') (a.put d u) w' := by
  cases d with
  | none => exact ⟨fun i => RA.mono hs _ _ (h.tmps i), h.size, h.defers, hh⟩
  | some d =>
    refine ⟨fun i => ?_, by simp [Act.put, AS.st, h.size], h.defers, hh⟩
    simp only [AS.st, Act.put, Array.getD_eq_getD_getElem?, Array.getElem?_setIfInBounds]
    by_cases hi : d = i
    · subst hi
      by_cases hd : d < σ.N
      · have : Nat.blt d σ.N = true := Nat.ble_eq_true_of_le hd
        rw [if_pos rfl, if_pos (by rw [h.size]; exact hd), this, Nat.beq_refl]
        exact hv
      · have hbl : Nat.blt d σ.N = false := by
          cases hc : Nat.blt d σ.N with
          | false => rfl
          | true => exact absurd (Nat.le_of_ble_eq_true hc) hd
        have := RA.mono hs _ _ (h.tmps d)
        rw [if_pos rfl, if_neg (by rw [h.size]; exact hd), hbl, Bool.and_false]
        have hn : a.tmps.getD d undef = undef := by simp [Array.getD_eq_getD_getElem?, h.size, hd]
        rw [hn] at this
        exact this
    · have hb : Nat.beq i d = false := by
        cases hc : Nat.beq i d with
        | false => rfl
        | true => exact absurd (Nat.eq_of_beq_eq_true hc).symm hi
      rw [if_neg hi, hb]
      have := RA.mono hs _ _ (h.tmps i)
      simpa [Array.getD_eq_getD_getElem?] using this
end Go.Proofs.YthloejmmgdjimaaDoor
namespace Go.Proofs.YthloejmmgdjimaaDoor
open Go.RowKit
/-- what is asked once an operation has yielded this -/
def Yl (P : Program) (r : Result Next) (next : Value → World → Prop) : Prop :=
  match r with
  | .ok (.value u) w' => next u w'
  | .ok .skip w' => next undef w'
  | .ok (.enter f args) w' => Calls P f args w' fun e w'' => ∃ v, e = .returned v ∧ next v w''
  | _ => False
theorem Yl.mono {P : Program} {r : Result Next} {next next' : Value → World → Prop} (h : Yl P r next) (hn : ∀ u w, next u w → next' u w) : Yl P r next' := by
  unfold Yl at *
  split <;> simp_all
  exact h.mono fun e w'' ⟨v, he, hv⟩ => ⟨v, he, hn _ _ hv⟩
/-- one operation, at operands that read so -/
structure LO (P : Program) (F : Frm) (o : Oper) (ρ : Operand → AV) (hp : List Blk) (K : AV → List Blk → Prop) : Prop where
  out : ∀ (M : Mm) (e : Operand → Value) (w : World), (∀ x ∈ o.op.operands.toList, RA M (ρ x) (e x)) → HeapOk F M hp w →
    Yl P ((execOp e o).run P w) fun u w' => ∃ M' v hp', K v hp' ∧ Ext F.may M M' ∧ HeapOk F M' hp' w' ∧ RA M' v u
theorem LO.mono {P : Program} {F : Frm} {o : Oper} {ρ : Operand → AV} {hp : List Blk} {K K' : AV → List Blk → Prop} (h : LO P F o ρ hp K) (hk : ∀ v hp', K v hp' → K' v hp') : LO P F o ρ hp K' :=
  ⟨fun M e w h1 h2 => (h.out M e w h1 h2).mono fun _ _ ⟨M', v, hp', h3, h4⟩ => ⟨M', v, hp', hk _ _ h3, h4⟩⟩
theorem LO.congr {P : Program} {F : Frm} {o : Oper} {ρ ρ' : Operand → AV} {hp : List Blk} {K : AV → List Blk → Prop} (h : LO P F o ρ hp K) (hk : ∀ x ∈ o.op.operands.toList, ρ' x = ρ x) : LO P F o ρ' hp K :=
  ⟨fun M e w h1 h2 => h.out M e w (fun x hx => by rw [← hk x hx]; exact h1 x hx) h2⟩
/-- a value, the world asq it was -/
theorem LO.same {P : Program} {F : Frm} {o : Oper} {ρ : Operand → AV} {hp : List Blk} {K : AV → List Blk → Prop} {v : AV}
    (h : ∀ (M : Mm) (e : Operand → Value) (w : World), (∀ x ∈ o.op.operands.toList, RA M (ρ x) (e x)) → HeapOk F M hp w → ∃ u, (execOp e o).run P w = .ok (.value u) w ∧ RA M v u) (hK : K v hp) : LO P F o ρ hp K := by
  refine ⟨fun M e w h1 h2 => ?_⟩
  obtain ⟨u, hr, hu⟩ := h M e w h1 h2
  rw [hr]
  exact ⟨M, v, hp, hK, Ext.refl _ _, h2, hu⟩
/-- operations in their order -/
structure AL (P : Program) (F : Frm) (ops : Array Oper) (K : AS → Prop) (l : List Oper) (σ : AS) : Prop where
  out : ∀ (M : Mm) (a : Act) (w : World), Rep F M σ a w → ∀ Q : Exit → Act → World → Prop, (∀ M' σ' a' w', K σ' → Rep F M' σ' a' w' → Q .normal a' w') → wpList P ops Q l a w
structure AC (P : Program) (F : Frm) (c : Code) (Q : Exit → AS → Prop) (σ : AS) : Prop where
  out : ∀ (M : Mm) (a : Act) (w : World), Rep F M σ a w → c.wp P (fun e a' w' => ∃ M' σ', Q e σ' ∧ Rep F M' σ' a' w') a w
section
variable {P : Program} {F : Frm}
theorem Yl.wp {o : Oper} {a : Act} {w : World} {next : Value → World → Prop} (h : Yl P ((execOp a.eval o).run P w) next) {K : Act → World → Prop} (Q : Exit → Act → World → Prop) (hk : ∀ u w', next u w' → K (a.put o.dst u) w') : o.wp P a w K Q := by
  unfold Oper.wp
  unfold Yl at h
  split at h
  · rename_i hr; rw [hr]; exact hk _ _ h
  · rename_i hr; rw [hr]; exact hk _ _ h
  · rename_i hr
    rw [hr]
    exact h.mono fun e w'' ⟨v, he, hv⟩ => by subst he; exact hk _ _ hv
  · exact h.elim
theorem al_nil {ops : Array Oper} {K : AS → Prop} {σ : AS} (h : K σ) : AL P F ops K [] σ := ⟨fun M a w hr _ hQ => hQ M σ a w h hr⟩
theorem al_op {ops : Array Oper} {K : AS → Prop} {σ : AS} {rest : List Oper} {d : Option Tmp} {op : Op} {ty : TypeId} {pos : String} {aft : Array Edge}
    (h : LO P F ⟨d, op, ty, pos, aft, none⟩ σ.ev σ.hp fun v hp' => AL P F ops K rest (σ.st d v hp')) : AL P F ops K (⟨d, op, ty, pos, aft, none⟩ :: rest) σ := by
  refine ⟨fun M a w hr Q hQ => ?_⟩
  refine wpList_plain rfl fun K' hK' => ?_
  refine (h.out M a.eval w (fun x _ => hr.ev x) hr.heap).wp Q fun u w' ⟨M', v, hp', h1, h2, h3, h4⟩ => hK' _ _ (h1.out M' _ _ (hr.st h2.sub h3 _ h4) Q hQ)
theorem yielded_of {M : Mm} {σ : AS} {a : Act} {w : World} (hr : Rep F M σ a w) {ops : Array Oper} {g : Nat} {d : Tmp} {c : Bool} (hd : (ops[g]?).bind (·.dst) = some d) (hv : σ.tmps d = .c (.lit (.bool c))) : yielded ops a.tmps g = some c := by
  have h := hr.tmps d
  rw [hv] at h
  simp only [RA, RT] at h
  unfold yielded
  rw [hd]
  simp only [Option.bind_some]
  rw [Array.getD_eq_getD_getElem?] at h
  cases hc : a.tmps[d]? with
  | none => rw [hc] at h; simp [undef] at h
  | some u => rw [hc] at h; simp at h; simp [h]
theorem al_do {ops : Array Oper} {K : AS → Prop} {σ : AS} {rest : List Oper} {dt : Option Tmp} {op : Op} {ty : TypeId} {pos : String} {aft : Array Edge} {g : Nat} {b : Bool} (d : Tmp)
    (hd : (ops[g]?).bind (·.dst) = some d) (hv : σ.tmps d = .c (.lit (.bool b)))
    (h : LO P F ⟨dt, op, ty, pos, aft, some (g, b)⟩ σ.ev σ.hp fun v hp' => AL P F ops K rest (σ.st dt v hp')) : AL P F ops K (⟨dt, op, ty, pos, aft, some (g, b)⟩ :: rest) σ := by
  refine ⟨fun M a w hr Q hQ => ?_⟩
  refine wpList_step fun K' hK' => ?_
  rw [if_pos (by simp [Region.wanted, yielded_of hr hd hv])]
  refine (h.out M a.eval w (fun x _ => hr.ev x) hr.heap).wp Q fun u w' ⟨M', v, hp', h1, h2, h3, h4⟩ => hK' _ _ (h1.out M' _ _ (hr.st h2.sub h3 _ h4) Q hQ)
theorem al_not {ops : Array Oper} {K : AS → Prop} {σ : AS} {rest : List Oper} {dt : Option Tmp} {op : Op} {ty : TypeId} {pos : String} {aft : Array Edge} {g : Nat} {b : Bool} (d : Tmp)
    (hd : (ops[g]?).bind (·.dst) = some d) (hv : σ.tmps d = .c (.lit (.bool !b)))
    (h : AL P F ops K rest (σ.st dt (.c (.lit undef)) σ.hp)) : AL P F ops K (⟨dt, op, ty, pos, aft, some (g, b)⟩ :: rest) σ := by
  refine ⟨fun M a w hr Q hQ => ?_⟩
  refine wpList_step fun K' hK' => ?_
  rw [if_neg (by cases b <;> simp [Region.wanted, yielded_of hr hd hv])]
  exact hK' _ _ (h.out M _ _ (hr.st (Sub.refl _) hr.heap _ (by simp [RA, RT])) Q hQ)
theorem yielded_un {M : Mm} {σ : AS} {a : Act} {w : World} (hr : Rep F M σ a w) {ops : Array Oper} {g : Nat} {d : Tmp} (hd : (ops[g]?).bind (·.dst) = some d) (hv : σ.tmps d = .c (.lit undef)) : yielded ops a.tmps g = none := by
  have h := hr.tmps d
  rw [hv] at h
  simp only [RA, RT] at h
  unfold yielded
  rw [hd]
  simp only [Option.bind_some]
  rw [Array.getD_eq_getD_getElem?] at h
  cases hc : a.tmps[d]? with
  | none => rfl
  | some u => rw [hc] at h; simp [undef] at h; simp [h]
theorem al_un {ops : Array Oper} {K : AS → Prop} {σ : AS} {rest : List Oper} {dt : Option Tmp} {op : Op} {ty : TypeId} {pos : String} {aft : Array Edge} {g : Nat} {b : Bool} (d : Tmp)
    (hd : (ops[g]?).bind (·.dst) = some d) (hv : σ.tmps d = .c (.lit undef))
    (h : AL P F ops K rest (σ.st dt (.c (.lit undef)) σ.hp)) : AL P F ops K (⟨dt, op, ty, pos, aft, some (g, b)⟩ :: rest) σ := by
  refine ⟨fun M a w hr Q hQ => ?_⟩
  refine wpList_step fun K' hK' => ?_
  rw [if_neg (by simp [Region.wanted, yielded_un hr hd hv])]
  exact hK' _ _ (h.out M _ _ (hr.st (Sub.refl _) hr.heap _ (by simp [RA, RT])) Q hQ)
theorem ac_region {id : Nat} {l : List Oper} {Q : Exit → AS → Prop} {σ : AS} (h : AL P F l.toArray (Q .normal) l σ) : AC P F (.region id l.toArray false) Q σ :=
  ⟨fun M a w hr => wp_region_lit (h.out M a w hr _ fun M' σ' _ _ hq hr' => ⟨M', σ', hq, hr'⟩)⟩
theorem AC.mono {c : Code} {Q Q' : Exit → AS → Prop} {σ : AS} (h : AC P F c Q σ) (hq : ∀ e σ', Q e σ' → Q' e σ') : AC P F c Q' σ :=
  ⟨fun M a w hr => wp_mono (h.out M a w hr) fun _ _ _ ⟨M', σ', h1, h2⟩ => ⟨M', σ', hq _ _ h1, h2⟩⟩
theorem ac_skip {Q : Exit → AS → Prop} {σ : AS} (h : Q .normal σ) : AC P F .skip Q σ := ⟨fun M _ _ hr => wp_skip ⟨M, σ, h, hr⟩⟩
theorem ac_ret {Q : Exit → AS → Prop} {σ : AS} (h : Q .ret σ) : AC P F .ret Q σ := ⟨fun M _ _ hr => wp_ret ⟨M, σ, h, hr⟩⟩
theorem ac_exit {id : Nat} {Q : Exit → AS → Prop} {σ : AS} (h : Q (.exit id) σ) : AC P F (.exit id) Q σ := ⟨fun M _ _ hr => wp_exit ⟨M, σ, h, hr⟩⟩
def thenA (next : AS → Prop) (Q : Exit → AS → Prop) (e : Exit) (σ : AS) : Prop :=
  match e with
  | .normal => next σ
  | e => Q e σ
def inBlk (id : Nat) (Q : Exit → AS → Prop) (e : Exit) (σ : AS) : Prop :=
  match e with
  | .exit id' => cond (Nat.beq id' id) (Q .normal σ) (Q (.exit id') σ)
  | e => Q e σ
theorem ac_seq {x y : Code} {Q : Exit → AS → Prop} {σ : AS} (h : AC P F x (thenA (AC P F y Q) Q) σ) : AC P F (.seq x y) Q σ := by
  refine ⟨fun M a w hr => ?_⟩
  refine wp_seq (wp_mono (h.out M a w hr) ?_)
  rintro e a' w' ⟨M', σ', h1, h2⟩
  cases e <;> first | exact h1.out M' a' w' h2 | exact ⟨M', σ', h1, h2⟩
theorem ac_block {id : Nat} {x : Code} {Q : Exit → AS → Prop} {σ : AS} (h : AC P F x (inBlk id Q) σ) : AC P F (.block id x) Q σ := by
  refine ⟨fun M a w hr => ?_⟩
  refine wp_block (wp_mono (h.out M a w hr) ?_)
  rintro e a' w' ⟨M', σ', h1, h2⟩
  cases e with
  | exit id' =>
    simp only [Exit.inBlock]
    by_cases hi : id' = id
    · subst hi
      rw [if_pos rfl]
      simp only [inBlk, Nat.beq_refl, cond_true] at h1
      exact ⟨M', σ', h1, h2⟩
    · have hb : Nat.beq id' id = false := by
        cases hc : Nat.beq id' id with
        | false => rfl
        | true => exact absurd (Nat.eq_of_beq_eq_true hc) hi
      rw [if_neg hi]
      simp only [inBlk, hb, cond_false] at h1
      exact ⟨M', σ', h1, h2⟩
  | _ => exact ⟨M', σ', h1, h2⟩
theorem ac_cond {c : Operand} {x y : Code} {Q : Exit → AS → Prop} {σ : AS} {t : Bool} (hc : σ.ev c = .c (.lit (.bool t))) (ht : t = true → AC P F x Q σ) (hf : t = false → AC P F y Q σ) : AC P F (.cond c x y) Q σ := by
  refine ⟨fun M a w hr => ?_⟩
  have h := hr.ev c
  rw [hc] at h
  simp only [RA, RT] at h
  exact wp_cond_split h (fun e => (ht e).out M a w hr) (fun e => (hf e).out M a w hr)
/-- what is known under σ gives what is known under τ -/
def Wk (F : Frm) (σ τ : AS) : Prop := ∀ (M : Mm) (a : Act) (w : World), Rep F M σ a w → ∃ M', Rep F M' τ a w
theorem Wk.refl (σ : AS) : Wk F σ σ := fun M _ _ h => ⟨M, h⟩
theorem Wk.trans {σ τ υ : AS} (h : Wk F σ τ) (h' : Wk F τ υ) : Wk F σ υ := fun M a w hr => let ⟨M', hr'⟩ := h M a w hr; h' M' a w hr'
theorem ac_wk {c : Code} {Q : Exit → AS → Prop} {σ τ : AS} (h : Wk F σ τ) (hc : AC P F c Q τ) : AC P F c Q σ := ⟨fun M a w hr => let ⟨M', hr'⟩ := h M a w hr; hc.out M' a w hr'⟩
theorem ac_loop {c : Code} {Q : Exit → AS → Prop} {σ : AS} {A : Type} (st : A → AS) (I : A → Prop) (μ : A → Nat) (x₀ : A) (h₀ : I x₀) (hσ : Wk F σ (st x₀))
    (round : ∀ x, I x → AC P F c (thenA (fun σ' => ∃ y, I y ∧ μ y < μ x ∧ Wk F σ' (st y)) Q) (st x)) : AC P F (.loop c) Q σ := by
  refine ⟨fun M a w hr => ?_⟩
  obtain ⟨M₁, hr₁⟩ := hσ M a w hr
  refine wp_loop_ghost (fun n a w => ∃ x M, I x ∧ μ x = n ∧ Rep F M (st x) a w) (μ x₀) ⟨x₀, M₁, h₀, rfl, hr₁⟩ ?_
  rintro n a w ⟨x, M, hx, rfl, hr⟩
  refine wp_mono ((round x hx).out M a w hr) ?_
  rintro e a' w' ⟨M', σ', h1, h2⟩
  cases e with
  | normal =>
    obtain ⟨y, hy, hlt, hw⟩ := h1
    obtain ⟨M'', hr''⟩ := hw M' a' w' h2
    exact ⟨μ y, hlt, y, M'', hy, rfl, hr''⟩
  | _ => exact ⟨M', σ', h1, h2⟩
def memB (i : Nat) : List Nat → Bool
  | [] => false
  | j :: l => cond (Nat.beq i j) true (memB i l)
def lkp (i : Nat) : List (Nat × AV) → Option AV
  | [] => none
  | (j, v) :: l => cond (Nat.beq i j) (some v) (lkp i l)
/-- the slots of W are forgotten, those of l hold these, the blocks are these -/
def AS.at_ (σ : AS) (W : List Nat) (l : List (Nat × AV)) (hp : List Blk) : AS :=
  ⟨fun i => match lkp i l with | some v => v | none => cond (memB i W) .junk (σ.tmps i), hp, σ.N⟩
def Agree (W : List Nat) (σ τ : AS) : Prop := σ.N = τ.N ∧ ∀ i, memB i W = false → σ.tmps i = τ.tmps i
def Has (σ : AS) : List (Nat × AV) → Prop
  | [] => True
  | (d, v) :: l => σ.tmps d = v ∧ Has σ l
theorem Agree.refl (W : List Nat) (σ : AS) : Agree W σ σ := ⟨rfl, fun _ _ => rfl⟩
theorem agree_st {W : List Nat} {σ τ : AS} {d : Tmp} {v : AV} {hp : List Blk} (hd : memB d W = true) (h : Agree W σ τ) : Agree W (σ.st (some d) v hp) τ := by
  refine ⟨h.1, fun i hi => ?_⟩
  have : Nat.beq i d = false := by
    cases hc : Nat.beq i d with
    | false => rfl
    | true =>
      have := Nat.eq_of_beq_eq_true hc
      subst this
      rw [hd] at hi; cases hi
  simp only [AS.st, this, Bool.false_and, cond_false]
  exact h.2 i hi
theorem lkp_mem {i : Nat} {v : AV} : ∀ {l : List (Nat × AV)}, lkp i l = some v → ∃ p ∈ l, p.1 = i ∧ p.2 = v
  | [], h => by simp [lkp] at h
  | (j, u) :: l, h => by
    unfold lkp at h
    cases hc : Nat.beq i j with
    | true =>
      rw [hc] at h
      simp only [cond_true, Option.some.injEq] at h
      exact ⟨(j, u), by simp, (Nat.eq_of_beq_eq_true hc).symm, h⟩
    | false =>
      rw [hc] at h
      obtain ⟨p, h1, h2⟩ := lkp_mem (l := l) h
      exact ⟨p, by simp [h1], h2⟩
theorem agree_at {W W' : List Nat} {σ τ : AS} {l : List (Nat × AV)} {hp : List Blk} (hW : (W'.all fun d => memB d W) = true) (hl : (l.all fun p => memB p.1 W) = true) (h : Agree W σ τ) : Agree W (σ.at_ W' l hp) τ := by
  refine ⟨h.1, fun i hi => ?_⟩
  have h1 : lkp i l = none := by
    cases hc : lkp i l with
    | none => rfl
    | some v =>
      obtain ⟨p, hp, rfl, _⟩ := lkp_mem hc
      have := List.all_eq_true.1 hl p hp
      rw [hi] at this; cases this
  have h2 : memB i W' = false := by
    cases hc : memB i W' with
    | false => rfl
    | true =>
      have hm : ∀ l : List Nat, memB i l = true → i ∈ l := by
        intro l
        induction l with
        | nil => intro h; cases h
        | cons j l ih =>
          intro h
          unfold memB at h
          cases hb : Nat.beq i j with
          | true => have := Nat.eq_of_beq_eq_true hb; subst this; simp
          | false => rw [hb] at h; exact List.mem_cons_of_mem _ (ih h)
      have := List.all_eq_true.1 hW i (hm W' hc)
      rw [hi] at this; cases this
  simp only [AS.at_, h1, h2, cond_false]
  exact h.2 i hi
theorem has_get {σ : AS} {i : Nat} {v : AV} : ∀ {l : List (Nat × AV)}, Has σ l → lkp i l = some v → σ.tmps i = v
  | [], _, h => by simp [lkp] at h
  | (j, u) :: l, hh, h => by
    unfold lkp at h
    cases hc : Nat.beq i j with
    | true =>
      rw [hc] at h
      simp only [cond_true, Option.some.injEq] at h
      rw [Nat.eq_of_beq_eq_true hc, ← h]; exact hh.1
    | false => rw [hc] at h; exact has_get hh.2 h
theorem wk_at {σ τ : AS} {W : List Nat} {l : List (Nat × AV)} {hp : List Blk} (hl : Has σ l) (hp' : σ.hp = hp) (h : Agree W σ τ) : Wk F σ (τ.at_ W l hp) := by
  subst hp'
  intro M a w hr
  refine ⟨M, fun i => ?_, hr.size.trans h.1, hr.defers, hr.heap⟩
  simp only [AS.at_]
  cases hc : lkp i l with
  | some v => rw [← has_get hl hc]; exact hr.tmps i
  | none =>
    cases hw : memB i W with
    | true => simp only [cond_true, RA]
    | false => simp only [cond_false]; rw [← h.2 i hw]; exact hr.tmps i
/-- blocks at the end are let go -/
theorem wk_drop {σ : AS} (k : Nat) : Wk F σ ⟨σ.tmps, σ.hp.take k, σ.N⟩ := by
  intro M a w hr
  have hg : ∀ (i : Nat) (x : Blk), (σ.hp.take k)[i]? = some x → σ.hp[i]? = some x := by
    intro i x hx
    rw [List.getElem?_take] at hx
    split at hx
    · exact hx
    · cases hx
  exact ⟨M, hr.tmps, hr.size, hr.defers, hr.heap.mem, hr.heap.ext, hr.heap.frm, fun i x hx => hr.heap.at_ i x (hg i x hx), fun i j x y b hx hy => hr.heap.sep i j x y b (hg i x hx) (hg j y hy), fun i x b hx => hr.heap.out i x b (hg i x hx)⟩
def AS.init (N : Nat) (args : List AV) : AS := ⟨fun i => cond (Nat.blt i N) (args.getD i (.c (.lit undef))) (.c (.lit undef)), [], N⟩
end
end Go.Proofs.YthloejmmgdjimaaDoor
namespace Go.Proofs.YthloejmmgdjimaaDoor
open Go.RowKit
inductive TD where
  | other
  | slice (e : TypeId)
  | struct (fs : List (Nat × Nat))
  | int (k : IntKind)
  | bool
  | string
  | array (len : Nat) (e : TypeId)
structure TI where
  size : Nat
  bytes : Nat
  zero : List Value
  d : TD
def TI.agg (i : TI) : Bool := match i.d with | .struct _ => true | .array _ _ => true | _ => false
inductive Tab where
  | nil
  | node (k : Nat) (i : TI) (l r : Tab)
def Tab.look (t : Nat) : Tab → Option TI
  | .nil => none
  | .node k i l r => cond (Nat.beq t k) (some i) (cond (Nat.blt t k) (l.look t) (r.look t))
def veq : Value → Value → Bool
  | .bool a, .bool b => a == b
  | .int k a, .int k' b => k == k' && a == b
  | .string a, .string b => a.size == 0 && b.size == 0
  | .pointer none, .pointer none => true
  | .slice none 0 0, .slice none 0 0 => true
  | .map none, .map none => true
  | .nilFunc, .nilFunc => true
  | .nilIface, .nilIface => true
  | _, _ => false
theorem veq_eq : ∀ {a b : Value}, veq a b = true → a = b
  | .bool a, .bool b, h => by simp [veq] at h; rw [h]
  | .int k a, .int k' b, h => by simp [veq] at h; rw [h.1, h.2]
  | .string a, .string b, h => by
    simp [veq] at h
    rw [h.1, h.2]
  | .pointer none, .pointer none, _ => rfl
  | .slice none 0 0, .slice none 0 0, _ => rfl
  | .map none, .map none, _ => rfl
  | .nilFunc, .nilFunc, _ => rfl
  | .nilIface, .nilIface, _ => rfl
def veqs : List Value → List Value → Bool
  | [], [] => true
  | a :: l, b :: r => veq a b && veqs l r
  | _, _ => false
theorem veqs_eq : ∀ {l r : List Value}, veqs l r = true → l = r
  | [], [], _ => rfl
  | a :: l, b :: r, h => by
    simp only [veqs, Bool.and_eq_true] at h
    rw [veq_eq h.1, veqs_eq h.2]
  | [], _ :: _, h => by cases h
  | _ :: _, [], h => by cases h
def fldsB (P : Program) : List Field → List (Nat × Nat) → Bool
  | [], [] => true
  | f :: l, (o, s) :: r => f.offset == o && (P.info? f.type).map (·.size) == some s && fldsB P l r
  | _, _ => false
def descB (P : Program) : TypeDesc → TD → Bool
  | .slice e, .slice e' => e == e'
  | .struct fs, .struct l => fldsB P fs.toList l
  | .int k, .int k' => k == k'
  | .bool, .bool => true
  | .string, .string => true
  | .array n e, .array n' e' => n == n' && e == e'
  | .pointer _, .other => true
  | .map _ _, .other => true
  | .func _ _ _, .other => true
  | .interface _, .other => true
  | _, _ => false
def entB (P : Program) (t : TypeId) (i : TI) : Bool :=
  (match P.info? t with
   | some inf => inf.size == i.size && inf.bytes == i.bytes && (match inf.zero with | some z => veqs z.cells.toList i.zero && (z.cells.size == i.size) && i.zero.all (·.oneCell') && ((match z with | .agg _ => true | _ => false) == i.agg) | none => false)
   | none => false) && (match P.underlying t with | some d => descB P d i.d | none => false)
def Tab.okB (P : Program) : Tab → Bool
  | .nil => true
  | .node k i l r => entB P k i && l.okB P && r.okB P
def TabOk (P : Program) (L : Tab) : Prop := ∀ t i, L.look t = some i → entB P t i = true
theorem tab_ok {P : Program} : ∀ {L : Tab}, L.okB P = true → TabOk P L
  | .nil, _, t, i, h => by simp [Tab.look] at h
  | .node k j l r, hk, t, i, h => by
    simp only [Tab.okB, Bool.and_eq_true] at hk
    simp only [Tab.look] at h
    cases hc : Nat.beq t k with
    | true =>
      rw [hc] at h
      simp only [cond_true, Option.some.injEq] at h
      rw [Nat.eq_of_beq_eq_true hc, ← h]; exact hk.1.1
    | false =>
      rw [hc] at h
      simp only [cond_false] at h
      cases hb : Nat.blt t k with
      | true => rw [hb] at h; exact tab_ok hk.1.2 t i h
      | false => rw [hb] at h; exact tab_ok hk.2 t i h
section
variable {P : Program} {F : Frm} {L : Tab}
theorem TabOk.info (hL : TabOk P L) {t : TypeId} {i : TI} (h : L.look t = some i) : ∃ inf z, P.info? t = some inf ∧ inf.size = i.size ∧ inf.bytes = i.bytes ∧ inf.zero = some z ∧ z.cells.toList = i.zero ∧ (z.cells.size = i.size ∧ OneAll i.zero) ∧ ((match z with | .agg _ => true | _ => false) = i.agg) := by
  have := hL t i h
  simp only [entB, Bool.and_eq_true] at this
  obtain ⟨h1, _⟩ := this
  split at h1
  · rename_i inf hinf
    simp only [Bool.and_eq_true, beq_iff_eq] at h1
    obtain ⟨⟨h2, h3⟩, h4⟩ := h1
    split at h4
    · rename_i z hz
      simp only [Bool.and_eq_true, beq_iff_eq] at h4
      exact ⟨inf, z, hinf, h2, h3, hz, veqs_eq h4.1.1.1, ⟨h4.1.1.2, fun x hx => List.all_eq_true.1 h4.1.2 x hx⟩, h4.2⟩
    · cases h4
  · cases h1
theorem TabOk.desc (hL : TabOk P L) {t : TypeId} {i : TI} (h : L.look t = some i) : ∃ d, P.underlying t = some d ∧ descB P d i.d = true := by
  have := hL t i h
  simp only [entB, Bool.and_eq_true] at this
  obtain ⟨_, h1⟩ := this
  split at h1
  · exact ⟨_, by assumption, h1⟩
  · cases h1
theorem TabOk.sizeOf (hL : TabOk P L) {t : TypeId} {i : TI} (h : L.look t = some i) (w : World) : (Go.sizeOf t).run P w = .ok i.size w := by
  obtain ⟨inf, _, h1, h2, _⟩ := hL.info h
  simp [Go.sizeOf, typeInfo, h1, h2]
theorem TabOk.zero (hL : TabOk P L) {t : TypeId} {i : TI} (h : L.look t = some i) : ∃ z, (∀ w, (zeroValue t).run P w = .ok z w) ∧ z.cells.toList = i.zero ∧ z.cells.size = i.size ∧ OneAll i.zero := by
  obtain ⟨inf, z, h1, _, _, h3, h4, h5, _⟩ := hL.info h
  exact ⟨z, fun w => by simp [zeroValue, typeInfo, h1, h3], h4, h5⟩
theorem TabOk.isAgg (hL : TabOk P L) {t : TypeId} {i : TI} (h : L.look t = some i) (w : World) : (Go.isAgg t).run P w = .ok i.agg w := by
  obtain ⟨d, h1, h2⟩ := hL.desc h
  simp only [Go.isAgg, Sem.run_bind, run_underlying h1, Result.andThen_ok]
  cases hd : i.d <;> rw [hd] at h2 <;> cases d <;> simp [descB] at h2 <;> simp [TI.agg, hd]
theorem TabOk.slice (hL : TabOk P L) {t e : TypeId} {i : TI} (h : L.look t = some i) (hd : i.d = .slice e) : P.underlying t = some (.slice e) := by
  obtain ⟨d, h1, h2⟩ := hL.desc h
  rw [hd] at h2
  cases d <;> simp [descB] at h2
  rw [h1, h2]
theorem TabOk.string (hL : TabOk P L) {t : TypeId} {i : TI} (h : L.look t = some i) (hd : i.d = .string) : P.underlying t = some .string := by
  obtain ⟨d, h1, h2⟩ := hL.desc h
  rw [hd] at h2
  cases d <;> simp [descB] at h2
  exact h1
theorem TabOk.int (hL : TabOk P L) {t : TypeId} {k : IntKind} {i : TI} (h : L.look t = some i) (hd : i.d = .int k) : P.underlying t = some (.int k) := by
  obtain ⟨d, h1, h2⟩ := hL.desc h
  rw [hd] at h2
  cases d <;> simp [descB] at h2
  rw [h1, h2]
theorem flds_get : ∀ {l : List Field} {r : List (Nat × Nat)} {k o s : Nat}, fldsB P l r = true → r[k]? = some (o, s) → ∃ f, l[k]? = some f ∧ f.offset = o ∧ (P.info? f.type).map (·.size) = some s
  | [], [], _, _, _, _, h => by simp at h
  | f :: l, (o', s') :: r, 0, o, s, hb, h => by
    simp only [fldsB, Bool.and_eq_true, beq_iff_eq] at hb
    simp only [List.getElem?_cons_zero, Option.some.injEq, Prod.mk.injEq] at h
    exact ⟨f, rfl, hb.1.1.trans h.1, hb.1.2.trans (by rw [h.2])⟩
  | f :: l, (o', s') :: r, k + 1, o, s, hb, h => by
    simp only [fldsB, Bool.and_eq_true] at hb
    obtain ⟨g, h1, h2⟩ := flds_get (k := k) hb.2 (by simpa using h)
    exact ⟨g, by simpa using h1, h2⟩
  | [], _ :: _, _, _, _, hb, _ => by cases hb
  | _ :: _, [], _, _, _, hb, _ => by cases hb
theorem TabOk.field (hL : TabOk P L) {t : TypeId} {i : TI} {fs : List (Nat × Nat)} (h : L.look t = some i) (hd : i.d = .struct fs) {k o s : Nat} (hk : fs[k]? = some (o, s)) :
    ∃ fields f, P.underlying t = some (.struct fields) ∧ fields[k]? = some f ∧ f.offset = o ∧ (P.info? f.type).map (·.size) = some s := by
  obtain ⟨d, h1, h2⟩ := hL.desc h
  rw [hd] at h2
  cases d <;> simp [descB] at h2
  rename_i fields
  obtain ⟨f, h3, h4⟩ := flds_get h2 hk
  exact ⟨fields, f, h1, by simpa using h3, h4⟩
def frz (M : Mm) (B : Nat) (w : World) : Mm := fun p =>
  match M p with
  | some v => some v
  | none => if B ≤ p.block then (w.cell? p).bind fun v => if v.oneCell' = true then some v else none else none
theorem frz_sub (M : Mm) (B : Nat) (w : World) : Sub M (frz M B w) := fun p v h => by simp [frz, h]
theorem frz_ok {M : Mm} {w : World} (h : MemOk M w) (B : Nat) : MemOk (frz M B w) w := by
  intro p v hp
  unfold frz at hp
  split at hp
  · rename_i u hu
    obtain rfl : u = v := by injection hp
    exact h p u hu
  · split at hp
    · cases hc : w.cell? p with
      | none => rw [hc] at hp; simp at hp
      | some u =>
        rw [hc] at hp
        simp only [Option.bind_some] at hp
        split at hp
        · injection hp with hp; subst hp; exact ⟨rfl, by assumption⟩
        · cases hp
    · cases hp
theorem frz_ext {M : Mm} (B : Nat) (w : World) : Ext (fr B) M (frz M B w) := by
  refine ⟨frz_sub M B w, fun p v hp => ?_⟩
  unfold frz at hp
  split at hp
  · rename_i u hu; rw [← hp]; exact .inl hu
  · split at hp
    · exact .inr (by assumption)
    · cases hp
theorem frz_new {M : Mm} {B : Nat} {w : World} {p : Addr} {v : Value} (hn : M p = none) (hB : B ≤ p.block) (hc : w.cell? p = some v) (h1 : v.oneCell' = true) : frz M B w p = some v := by
  simp [frz, hn, hB, hc, h1]
mutual
def Rz (hp : List Blk) : AV → T → Prop
  | .c t, t' => t' = t ∨ (t = .lit (.slice none 0 0) ∧ ∃ sz, 0 < sz ∧ t' = .row 0 sz [])
  | .own i v, t' => ∃ e sz n ts, hp[i]? = some (.row v e sz n ts) ∧ t' = .row n sz ts
  | .agg cs, t' => ∃ ts, t' = .agg ts ∧ Rzs hp cs ts
  | .tup cs, t' => ∃ ts, t' = .tup ts ∧ Rzs hp cs ts
  | .fn f cap, t' => ∃ ts, t' = .fn f ts ∧ Rzs hp cap ts
  | .ptr i b off, t' => ∃ ty ts, hp[i]? = some (.box b ty (ts.map .c)) ∧ t' = .pin ts off
  | .eptr _ _ _, _ => False
  | .junk, _ => False
def Rzs (hp : List Blk) : List AV → List T → Prop
  | [], ts => ts = []
  | a :: asq, ts => ∃ t r, ts = t :: r ∧ Rz hp a t ∧ Rzs hp asq r
end
section
variable {hp : List Blk}
theorem rz_c {t : T} : Rz hp (.c t) t := by simp only [Rz]; exact .inl trivial
theorem rz_nil {sz : Nat} (h : Nat.ble 1 sz = true) : Rz hp (.c (.lit (.slice none 0 0))) (.row 0 sz []) := by simp only [Rz]; exact .inr ⟨trivial, sz, Nat.le_of_ble_eq_true h, rfl⟩
theorem rt_nil {M : Mm} {u : Value} {sz : Nat} (h0 : 0 < sz) (h : RT M (.lit (.slice none 0 0)) u) : RT M (.row 0 sz []) u := by
  simp only [RT] at h ⊢
  subst h
  exact ⟨none, 0, [], rfl, Nat.le_refl _, Nat.zero_le _, h0, by simp, fun h => absurd h (by omega), by simp only [RTs]⟩
theorem rz_own {i : Nat} {v : Value} {e : TypeId} {sz n : Nat} {ts : List T} (h : hp[i]? = some (.row v e sz n ts)) : Rz hp (.own i v) (.row n sz ts) := by simp only [Rz]; exact ⟨e, sz, n, ts, h, rfl⟩
theorem rz_agg {cs : List AV} {ts : List T} (h : Rzs hp cs ts) : Rz hp (.agg cs) (.agg ts) := by simp only [Rz]; exact ⟨ts, rfl, h⟩
theorem rz_tup {cs : List AV} {ts : List T} (h : Rzs hp cs ts) : Rz hp (.tup cs) (.tup ts) := by simp only [Rz]; exact ⟨ts, rfl, h⟩
theorem rz_fn {f : Fn} {cs : List AV} {ts : List T} (h : Rzs hp cs ts) : Rz hp (.fn f cs) (.fn f ts) := by simp only [Rz]; exact ⟨ts, rfl, h⟩
theorem rz_ptr {i b off : Nat} {ty : TypeId} {ts : List T} (h : hp[i]? = some (.box b ty (ts.map .c))) : Rz hp (.ptr i b off) (.pin ts off) := by simp only [Rz]; exact ⟨ty, ts, h, rfl⟩
theorem rzs_nil : Rzs hp [] [] := by simp only [Rzs]
theorem rzs_cons {a : AV} {asq : List AV} {t : T} {ts : List T} (h : Rz hp a t) (h' : Rzs hp asq ts) : Rzs hp (a :: asq) (t :: ts) := by simp only [Rzs]; exact ⟨t, ts, rfl, h, h'⟩
end
theorem heap_row {M : Mm} {hp : List Blk} {w : World} (h : HeapOk F M hp w) {B : Nat} (hB : ∀ (i : Nat) x b, hp[i]? = some x → x.blk = some b → B ≤ b) {i : Nat} {v : Value} {e : TypeId} {sz n : Nat} {ts : List T} (hi : hp[i]? = some (.row v e sz n ts)) :
    RT (frz M B w) (.row n sz ts) v := by
  obtain ⟨xs, ho, hx, h1, hsz⟩ := h.at_ i _ hi
  have hs := ownO_shape ho
  obtain ⟨A, c, rfl, hnc, hcm⟩ := hs
  simp only [RT]
  refine ⟨A, c, xs, rfl, hnc, Nat.le_trans hnc hcm, hsz, ho.1, fun hn => ?_, RTs.mono (frz_sub _ _ _) _ _ hx⟩
  obtain ⟨ad, rfl⟩ := ho.some_ hn
  exact ⟨ad, rfl, fun j x hj => frz_new ((h.out i _ ad.block hi rfl).2 _ (by rw [add_block])) (by rw [add_block]; exact hB i _ ad.block hi rfl) (ho.cells j x hj) (h1 x (List.mem_of_getElem? hj))⟩
mutual
theorem rz_sound {M : Mm} {hp : List Blk} {w : World} (h : HeapOk F M hp w) {B : Nat} (hB : ∀ (i : Nat) x b, hp[i]? = some x → x.blk = some b → B ≤ b) : ∀ (av : AV) (t : T) (u : Value), Rz hp av t → RA M av u → RT (frz M B w) t u
  | .c t, t', u, hz, hr => by
    simp only [Rz] at hz
    simp only [RA] at hr
    rcases hz with rfl | ⟨rfl, sz, h0, rfl⟩
    · exact RT.mono (frz_sub _ _ _) _ _ hr
    · exact rt_nil h0 (RT.mono (frz_sub _ _ _) _ _ hr)
  | .own i v, t', u, hz, hr => by
    simp only [Rz] at hz
    obtain ⟨e, sz, n, ts, h1, rfl⟩ := hz
    simp only [RA] at hr
    rw [hr.1]
    exact heap_row h hB h1
  | .agg cs, t', u, hz, hr => by
    simp only [Rz] at hz
    obtain ⟨ts, rfl, h1⟩ := hz
    simp only [RA] at hr
    obtain ⟨xs, rfl, h2⟩ := hr
    simp only [RT]
    exact ⟨xs, rfl, rzs_sound h hB cs ts xs h1 h2⟩
  | .tup cs, t', u, hz, hr => by
    simp only [Rz] at hz
    obtain ⟨ts, rfl, h1⟩ := hz
    simp only [RA] at hr
    obtain ⟨xs, rfl, h2⟩ := hr
    simp only [RT]
    exact ⟨xs, rfl, rzs_sound h hB cs ts xs h1 h2⟩
  | .fn f cap, t', u, hz, hr => by
    simp only [Rz] at hz
    obtain ⟨ts, rfl, h1⟩ := hz
    simp only [RA] at hr
    obtain ⟨xs, rfl, h2⟩ := hr
    simp only [RT]
    exact ⟨xs, rfl, rzs_sound h hB cap ts xs h1 h2⟩
  | .ptr i b off, t', u, hz, hr => by
    simp only [Rz] at hz
    obtain ⟨ty, ts, h1, rfl⟩ := hz
    simp only [RA] at hr
    subst hr
    obtain ⟨xs, hh, hx, hone⟩ := h.at_ i _ h1
    simp only [RT]
    refine ⟨⟨b, 0, none⟩, xs, by unfold Addr.add; split <;> simp_all, fun j x hj => ?_, RTs.mono (frz_sub _ _ _) _ _ hx.toT⟩
    have hadd : (⟨b, 0, none⟩ : Addr).add j = ⟨b, j, none⟩ := by unfold Addr.add; split <;> simp_all
    rw [hadd]
    refine frz_new ((h.out i _ b h1 rfl).2 _ rfl) (hB i _ b h1 rfl) ?_ (hone x (List.mem_of_getElem? hj))
    rw [cell_of_row _ b j _ _ _ hh]
    simpa using hj
  | .eptr _ _ _, _, _, hz, _ => by simp only [Rz] at hz
  | .junk, _, _, hz, _ => by simp only [Rz] at hz
theorem rzs_sound {M : Mm} {hp : List Blk} {w : World} (h : HeapOk F M hp w) {B : Nat} (hB : ∀ (i : Nat) x b, hp[i]? = some x → x.blk = some b → B ≤ b) : ∀ (asq : List AV) (ts : List T) (us : List Value), Rzs hp asq ts → RAs M asq us → RTs (frz M B w) ts us
  | [], ts, us, hz, hr => by
    simp only [Rzs] at hz
    simp only [RAs] at hr
    subst hz; subst hr
    simp only [RTs]
  | a :: asq, ts, us, hz, hr => by
    simp only [Rzs] at hz
    obtain ⟨t, r, rfl, h1, h2⟩ := hz
    simp only [RAs] at hr
    obtain ⟨x, xs, rfl, h3, h4⟩ := hr
    simp only [RTs]
    exact ⟨x, xs, rfl, rz_sound h hB a t x h1 h3, rzs_sound h hB asq r xs h2 h4⟩
end
end
attribute [irreducible] Rz Rzs
end Go.Proofs.YthloejmmgdjimaaDoor
namespace Go.Proofs.YthloejmmgdjimaaDoor
open Go.RowKit
section
variable {P : Program} {F : Frm} {L : Tab}
def Out1 (L : Tab) (σ : AS) : ResultVar → T → Prop
  | .tmp i, t => Rz σ.hp (σ.tmps i) t
  | .cell a ty, t => ∃ i b off tb cs ti, σ.tmps a = .ptr i b off ∧ σ.hp[i]? = some (.box b tb cs) ∧ L.look ty = some ti ∧
      (match ti.agg with | true => off + ti.size ≤ cs.length ∧ Rz σ.hp (.agg ((cs.drop off).take ti.size)) t | false => ∃ v, cs[off]? = some v ∧ Rz σ.hp v t)
def Outs (L : Tab) (σ : AS) : List ResultVar → List T → Prop
  | [], ts => ts = []
  | r :: rs, ts => ∃ t ts', ts = t :: ts' ∧ Out1 L σ r t ∧ Outs L σ rs ts'
def outT : List T → T
  | [t] => t
  | ts => .tup ts
/-- a function's end -/
structure Fin (L : Tab) (res : List ResultVar) (R : T → Prop) (e : Exit) (σ : AS) : Prop where
  out : (e = .normal ∨ e = .ret) ∧ ∃ ts, Outs L σ res ts ∧ R (outT ts)
theorem box_add (b off j : Nat) : (⟨b, off, none⟩ : Addr).add j = ⟨b, off + j, none⟩ := by unfold Addr.add; split <;> simp_all
/-- loading out of a variable -/
theorem load_box {M : Mm} {hp : List Blk} {w : World} (hL : TabOk P L) (h : HeapOk F M hp w) {i b off : Nat} {tb ty : TypeId} {cs : List AV} {ti : TI} (hi : hp[i]? = some (.box b tb cs)) (ht : L.look ty = some ti) (ha : ti.agg = true) (hl : off + ti.size ≤ cs.length) :
    ∃ u, (loadVar ty ⟨b, off, none⟩).run P w = .ok u w ∧ RA M (.agg ((cs.drop off).take ti.size)) u := by
  obtain ⟨xs, hh, hx, _⟩ := h.at_ i _ hi
  have hlen := hx.len
  refine ⟨.agg ((xs.drop off).take ti.size).toArray, ?_, by simp only [RA]; exact ⟨_, rfl, (hx.drop off).take ti.size⟩⟩
  have hlc : (loadCells ⟨b, off, none⟩ ti.size).run P w = .ok ((xs.drop off).take ti.size).toArray w := by
    have := run_loadCells_list (P := P) w ⟨b, off, none⟩ ((xs.drop off).take ti.size) (fun j v hj => by
      rw [box_add, cell_of_row _ b (off + j) _ _ _ hh]
      rw [List.getElem?_take] at hj
      split at hj
      · rw [List.getElem?_drop] at hj; simpa using hj
      · cases hj)
    rwa [show ((xs.drop off).take ti.size).length = ti.size by simp; omega] at this
  simp only [loadVar, Sem.run_bind, hL.isAgg ht, ha, Result.andThen_ok, if_true, hL.sizeOf ht, hlc, Sem.run_pure]
theorem load_box1 {M : Mm} {hp : List Blk} {w : World} (hL : TabOk P L) (h : HeapOk F M hp w) {i b off : Nat} {tb ty : TypeId} {cs : List AV} {ti : TI} {v : AV} (hi : hp[i]? = some (.box b tb cs)) (ht : L.look ty = some ti) (ha : ti.agg = false) (hv : cs[off]? = some v) :
    ∃ u, (loadVar ty ⟨b, off, none⟩).run P w = .ok u w ∧ RA M v u := by
  obtain ⟨xs, hh, hx, _⟩ := h.at_ i _ hi
  obtain ⟨x, hxo, hr⟩ := hx.get hv
  refine ⟨x, ?_, hr⟩
  have hcell : w.cell? ⟨b, off, none⟩ = some x := by rw [cell_of_row _ b off _ _ _ hh]; simpa using hxo
  simp only [loadVar, Sem.run_bind, hL.isAgg ht, ha, Result.andThen_ok, Bool.false_eq_true, if_false, run_load, hcell]
theorem out1_sound {M : Mm} {σ : AS} {a : Act} {w : World} (hL : TabOk P L) (hr : Rep F M σ a w) {B : Nat} (hB : ∀ (i : Nat) x b, σ.hp[i]? = some x → x.blk = some b → B ≤ b) {r : ResultVar} {t : T} (ho : Out1 L σ r t) :
    ∃ u, ((match r with | .tmp t => pure (a.tmps.getD t undef) | .cell a' t => do loadVar t (← asAddr (a.tmps.getD a' undef))) : Sem Value).run P w = .ok u w ∧ RT (frz M B w) t u := by
  cases r with
  | tmp i => exact ⟨_, rfl, rz_sound hr.heap hB _ _ _ ho (hr.tmps i)⟩
  | cell x ty =>
    obtain ⟨i, b, off, tb, cs, ti, h1, h2, h3, h4⟩ := ho
    have hv := hr.tmps x
    rw [h1] at hv
    simp only [RA] at hv
    simp only [hv, asAddr, Sem.run_bind, Sem.run_pure, Result.andThen_ok]
    cases hag : ti.agg with
    | true =>
      rw [hag] at h4
      obtain ⟨u, hu, hra⟩ := load_box hL hr.heap h2 h3 hag h4.1
      exact ⟨u, hu, rz_sound hr.heap hB _ _ _ h4.2 hra⟩
    | false =>
      rw [hag] at h4
      obtain ⟨v, hv, hz⟩ := h4
      obtain ⟨u, hu, hra⟩ := load_box1 hL hr.heap h2 h3 hag hv
      exact ⟨u, hu, rz_sound hr.heap hB _ _ _ hz hra⟩
theorem outs_sound {M : Mm} {σ : AS} {a : Act} {w : World} (hL : TabOk P L) (hr : Rep F M σ a w) {B : Nat} (hB : ∀ (i : Nat) x b, σ.hp[i]? = some x → x.blk = some b → B ≤ b) : ∀ {rs : List ResultVar} {ts : List T}, Outs L σ rs ts →
    ∃ us, (rs.mapM fun r => ((match r with | .tmp t => pure (a.tmps.getD t undef) | .cell a' t => do loadVar t (← asAddr (a.tmps.getD a' undef))) : Sem Value)).run P w = .ok us w ∧ RTs (frz M B w) ts us
  | [], ts, ho => by
    simp only [Outs] at ho
    subst ho
    exact ⟨[], rfl, by simp only [RTs]⟩
  | r :: rs, ts, ho => by
    simp only [Outs] at ho
    obtain ⟨t, ts', rfl, h1, h2⟩ := ho
    obtain ⟨u, hu, hu'⟩ := out1_sound hL hr hB h1
    obtain ⟨us, hus, hus'⟩ := outs_sound hL hr hB h2
    refine ⟨u :: us, ?_, by simp only [RTs]; exact ⟨u, us, rfl, hu', hus'⟩⟩
    simp only [List.mapM_cons, Sem.run_bind, hu, Result.andThen_ok, hus, Sem.run_pure]
theorem results_sound {M : Mm} {σ : AS} {a : Act} {w : World} (hL : TabOk P L) (hr : Rep F M σ a w) {B : Nat} (hB : ∀ (i : Nat) x b, σ.hp[i]? = some x → x.blk = some b → B ≤ b) {fn : Func} {ts : List T} (ho : Outs L σ fn.results.toList ts) :
    ∃ u, (results fn a.tmps).run P w = .ok u w ∧ RT (frz M B w) (outT ts) u := by
  obtain ⟨us, hus, hr⟩ := outs_sound hL hr hB ho
  have hlen := hr.len
  have hm : (fn.results.mapM fun r => ((match r with | .tmp t => pure (a.tmps.getD t undef) | .cell a' t => do loadVar t (← asAddr (a.tmps.getD a' undef))) : Sem Value)).run P w = .ok us.toArray w := by
    rw [Array.mapM_eq_mapM_toList]
    rw [Sem.run_map, hus]
    rfl
  refine ⟨if h : us.toArray.size = 1 then us.toArray[0] else .tuple us.toArray, ?_, ?_⟩
  · unfold results
    simp only [Sem.run_bind, Sem.run_pure]
    erw [hm]
    rfl
  · match ts, us, hlen, hr with
    | [], [], _, hr => simp only [outT, RT]; exact ⟨[], by simp, hr⟩
    | [t], [u], _, hr =>
      simp only [RTs] at hr
      obtain ⟨x, r, e, h1, _⟩ := hr
      injection e with e _
      subst e
      simpa [outT] using h1
    | t1 :: t2 :: ts, u1 :: u2 :: us, _, hr => simp only [outT, RT]; exact ⟨u1 :: u2 :: us, by simp, hr⟩
/-- a function walked -/
theorem af_of {f : FuncId} {fn : Func} {c : Code} {args : List T} {R : T → Prop} (hL : TabOk P L) (hf : P.funcs[f]? = some fn) (hb : fn.body = some c) (hn : (fn.name == "runtime.NumGoroutine") = false) (hN : args.length ≤ fn.ntmps)
    (h : ∀ F, (∀ b, ¬ F.X b) → AC P F c (Fin L fn.results.toList R) (AS.init fn.ntmps (args.map .c))) : AF P f args R := by
  refine ⟨⟨fn, hf, hn, by rw [hb]; rfl⟩, fun M w vs hG hM hvs => ?_⟩
  have hlen := hvs.len
  refine calls_of_wp hf hb (wp_mono ((h ⟨w, fun _ => False, M, hG, fun _ _ h => h⟩ (fun _ h => h)).out M _ w ⟨?_, ?_, rfl, ?_⟩) ?_)
  · intro i
    have hav := RAs.ofT hvs
    simp only [AS.init]
    by_cases hi : i < args.length
    · have : Nat.blt i fn.ntmps = true := Nat.ble_eq_true_of_le (by omega)
      rw [this, cond_true]
      have h1 : (args.map AV.c)[i]? = some (.c args[i]) := by simp [hi]
      obtain ⟨x, hx, hra⟩ := hav.get h1
      rw [List.getD_eq_getElem?_getD, h1]
      have h2 : i < vs.length := by omega
      have h3 : vs[i] = x := by rw [List.getElem?_eq_getElem h2] at hx; injection hx
      simp [Array.getD_eq_getD_getElem?, Array.getElem?_append, h2, h3]
      exact hra
    · have h1 : (args.map AV.c).getD i (.c (.lit undef)) = .c (.lit undef) := by
        rw [List.getD_eq_getElem?_getD, List.getElem?_eq_none (by simp; omega)]; rfl
      rw [h1]
      have h2 : ¬ i < vs.length := by omega
      have h3 : (vs.toArray ++ Array.replicate (fn.ntmps - vs.toArray.size) undef).getD i undef = undef := by
        simp [Array.getD_eq_getD_getElem?, Array.getElem?_append, h2, Array.getElem?_replicate]
        split <;> rfl
      rw [h3]
      cases Nat.blt i fn.ntmps <;> simp only [cond_true, cond_false, RA, RT]
  · simp [AS.init]; omega
  · exact ⟨hM, Ext.refl _ _, ⟨rfl, rfl, rfl, Nat.le_refl _, fun _ _ _ => rfl⟩, fun i x hx => by simp [AS.init] at hx, fun i j x y b hx => by simp [AS.init] at hx, fun i x b hx => by simp [AS.init] at hx⟩
  · rintro e a' w' ⟨M', σ', ⟨⟨he, ts, ho, hR⟩⟩, hr⟩
    have hB : ∀ (i : Nat) x b, σ'.hp[i]? = some x → x.blk = some b → w.heap.size ≤ b := by
      intro i x b hx hxb
      rcases (hr.heap.out i x b hx hxb).1 with h1 | h1
      · exact h1.elim
      · exact h1
    obtain ⟨u, hu, hRT⟩ := results_sound hL hr hB ho
    have hfin : a'.defers = [] ∧ ∃ v, (results fn a'.tmps).run P w' = .ok v w' ∧ ∃ v' r M', Ending.returned v = .returned v' ∧ R r ∧ Ext (fr w.heap.size) M M' ∧ MemOk M' w' ∧ RT M' r v' ∧ Below w.heap.size w w' :=
      ⟨hr.defers, u, hu, u, outT ts, frz M' w.heap.size w', rfl, hR, (hr.heap.ext.to (fun _ h => h.elim (fun h => h.elim) id)).trans (frz_ext _ _), frz_ok hr.heap.mem _, hRT, ⟨hr.heap.frm.os, hr.heap.frm.tape, hr.heap.frm.output, hr.heap.frm.size, fun k hk => hr.heap.frm.block k hk (fun h => h)⟩⟩
    rcases he with rfl | rfl <;> exact hfin
end
end Go.Proofs.YthloejmmgdjimaaDoor
