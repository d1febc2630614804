/-
  Texts of this proof, part 1: Mem Ab1 Ab2 Ab3 Ab4 Ab5 Ab6 Ab7 Ab8 Ab9 Ab10 Ab11 Ab12 Ab13 Ab14 Ab15 Ab16 Ab19.
-/
import Derived.Below
import Derived.ChangeSame
import Derived.Deep.AppendLies
import Derived.Deep.Draws
import Derived.Deep.LoopGhost
import Derived.IntWalk
import Derived.Laws.BitsAllLaws
import Derived.Laws.BitsLemmas
import Derived.Laws.BytesArg
import Derived.Laws.CopyRow
import Derived.Laws.IdiomStrings
import Derived.Laws.OwnMore
import Derived.Lib.Hide
import Derived.MapKept
import Derived.Maps.AppendAt
import Derived.OwnWalk
import Derived.RegionTactic
import Derived.StillTail
import Derived.WalkKit
import Derived.WalkLawsBesides
import Derived.WalkSpells
namespace Go.Proofs.Ythgackidonocpaa
open Go.RowKit
theorem add_block (a : Addr) (n : Nat) : (a.add n).block = a.block := by unfold Addr.add; split <;> rfl
theorem add_add' (a : Addr) (i j : Nat) : (a.add i).add j = a.add (i + j) := by
  unfold Addr.add
  by_cases hi : i = 0 <;> by_cases hj : j = 0 <;> simp [hi, hj, Nat.add_assoc]
/-- The slice value '.slice A n c' holds the cells xs (sz cells an element) and lies below block B. -/
def Rd (w : World) (B sz : Nat) (A : Option Addr) (n : Nat) (xs : List Value) : Prop :=
  xs.length = n * sz ∧ (0 < n → ∃ ad, A = some ad ∧ ad.block < B ∧ ∀ j u, xs[j]? = some u → w.cell? (ad.add j) = some u)
section
variable {w w' : World} {B B' sz n : Nat} {A : Option Addr} {xs : List Value}
theorem Rd.nil : Rd w B sz A 0 [] := ⟨by simp, fun h => absurd h (by omega)⟩
theorem Rd.len (h : Rd w B 1 A n xs) : xs.length = n := by simpa using h.1
theorem Rd.get {k : Nat} (h : Rd w B 1 A n xs) (hk : k < n) : ∃ ad, A = some ad ∧ ad.block < B ∧ w.cell? (ad.add k) = some (xs[k]'(by rw [h.len]; exact hk)) := by
  obtain ⟨ad, e, hb, hc⟩ := h.2 (by omega)
  exact ⟨ad, e, hb, hc k _ (List.getElem?_eq_getElem _)⟩
theorem Rd.keep (h : Rd w B sz A n xs) (hk : ∀ p : Addr, p.block < B → w'.cell? p = w.cell? p) : Rd w' B sz A n xs := by
  refine ⟨h.1, fun hn => ?_⟩
  obtain ⟨ad, e, hb, hc⟩ := h.2 hn
  exact ⟨ad, e, hb, fun j u hu => (hk _ (by rw [add_block]; exact hb)).trans (hc j u hu)⟩
theorem Rd.up (h : Rd w B sz A n xs) (hB : B ≤ B') : Rd w B' sz A n xs := by
  refine ⟨h.1, fun hn => ?_⟩
  obtain ⟨ad, e, hb, hc⟩ := h.2 hn
  exact ⟨ad, e, by omega, hc⟩
theorem Rd.below (h : Rd w B sz A n xs) (hb : Below B w w') : Rd w' B sz A n xs := h.keep fun _ hp => hb.cell hp
theorem Rd.take (h : Rd w B sz A n xs) {k : Nat} (hk : k ≤ n) : Rd w B sz A k (xs.take (k * sz)) := by
  refine ⟨by rw [List.length_take, h.1]; exact Nat.min_eq_left (Nat.mul_le_mul_right _ hk), fun hn => ?_⟩
  obtain ⟨ad, e, hb, hc⟩ := h.2 (by omega)
  refine ⟨ad, e, hb, fun j u hu => hc j u ?_⟩
  rw [List.getElem?_take] at hu
  split at hu
  · exact hu
  · cases hu
theorem Rd.drop (h : Rd w B sz A n xs) {k cap : Nat} (hk : k ≤ n) (hc : n ≤ cap) :
    Rd w B sz (if cap = k then A else A.map (·.add (k * sz))) (n - k) (xs.drop (k * sz)) := by
  refine ⟨by rw [List.length_drop, h.1, Nat.sub_mul], fun hn => ?_⟩
  obtain ⟨ad, rfl, hb, hcell⟩ := h.2 (by omega)
  rw [if_neg (by omega)]
  refine ⟨ad.add (k * sz), rfl, by rw [add_block]; exact hb, fun j u hu => ?_⟩
  rw [add_add']
  exact hcell _ u (by rw [← hu, List.getElem?_drop])
theorem Rd.of_own {base : Nat} {e : TypeId} {c : Nat} (h : w.ownsRow base e sz (.slice A n c) n xs) : Rd w w.heap.size sz A n xs := by
  refine ⟨h.1, fun hn => ?_⟩
  rcases h.2 with ⟨_, h0⟩ | ⟨g, cap, cur, hv, _, hg, _⟩
  · omega
  · have hA : A = some ⟨g, 0, none⟩ := by injection hv
    subst hA
    exact ⟨_, rfl, (Array.getElem?_eq_some_iff.1 hg).1, h.cells (g := g) rfl⟩
end
/-- a new block just made, asq a slice of all its cells (elements of one cell) -/
theorem Rd.fresh (w : World) (t : TypeId) (cs : Array Value) : Rd (w.alloc (.cells cs t)) (w.heap.size + 1) 1 (some ⟨w.heap.size, 0, none⟩) cs.size cs.toList := by
  refine ⟨by simp, fun _ => ⟨_, rfl, by simp, fun j u hu => ?_⟩⟩
  have hadd : (⟨w.heap.size, 0, none⟩ : Addr).add j = ⟨w.heap.size, j, none⟩ := by unfold Addr.add; split <;> simp_all
  rw [hadd, cell_of_row _ w.heap.size j cs t (0, 0) (heap_alloc_new w _)]
  simpa using hu
theorem Rd.box (w : World) (t : TypeId) (x : Value) : Rd (w.alloc (.cells #[x] t)) (w.heap.size + 1) 1 (some ⟨w.heap.size, 0, none⟩) 1 [x] := Rd.fresh w t #[x]
theorem own_shape {w : World} {base sz n : Nat} {e : TypeId} {v : Value} {xs : List Value} (h : w.ownsRow base e sz v n xs) : ∃ A c, v = .slice A n c ∧ n ≤ c ∧ c ≤ maxLen := by
  rcases h.2 with ⟨rfl, rfl⟩ | ⟨g, cap, cur, rfl, _, _, h1, h2, _⟩
  · exact ⟨none, 0, rfl, Nat.le_refl _, Nat.zero_le _⟩
  · exact ⟨_, _, rfl, h1, h2⟩
/-- each of the values is a row of its own -/
def OwnAll (w : World) (base : Nat) (e : TypeId) : List Value → List (List Value) → Prop
  | [], [] => True
  | p :: ps, x :: xs => w.ownsRow base e 1 p x.length x ∧ OwnAll w base e ps xs
  | _, _ => False
theorem OwnAll.len {w : World} {base : Nat} {e : TypeId} : ∀ {ps : List Value} {xs : List (List Value)}, OwnAll w base e ps xs → ps.length = xs.length
  | [], [], _ => rfl
  | _ :: _, _ :: _, h => by simp [OwnAll.len h.2]
  | [], _ :: _, h => h.elim
  | _ :: _, [], h => h.elim
theorem OwnAll.map {w w' : World} {base base' : Nat} {e : TypeId} (f : ∀ p (x : List Value), w.ownsRow base e 1 p x.length x → w'.ownsRow base' e 1 p x.length x) : ∀ {ps : List Value} {xs : List (List Value)}, OwnAll w base e ps xs → OwnAll w' base' e ps xs
  | [], [], _ => trivial
  | _ :: _, _ :: _, h => ⟨f _ _ h.1, OwnAll.map f h.2⟩
  | [], _ :: _, h => h.elim
  | _ :: _, [], h => h.elim
theorem OwnAll.get {w : World} {base : Nat} {e : TypeId} : ∀ {ps : List Value} {xs : List (List Value)}, OwnAll w base e ps xs → ∀ k (hp : k < ps.length) (hx : k < xs.length), w.ownsRow base e 1 ps[k] (xs[k]).length xs[k]
  | [], _, _, _, hp, _ => by simp at hp
  | _ :: _, [], h, _, _, _ => h.elim
  | _ :: _, _ :: _, h, 0, _, _ => h.1
  | _ :: _, _ :: _, h, k + 1, hp, hx => by simpa using OwnAll.get h.2 k (by simpa using hp) (by simpa using hx)
/-- append onto a row of the call's own, and where the new row lies -/
theorem run_append_at {P : Program} (w : World) (base : Nat) (t ty e : TypeId) (i : TypeInfo) (z : Value) (size bytes : Nat) (ht : P.underlying t = some (.slice e)) (hi : P.info? e = some i) (hz : i.zero = some z)
    (hsize : i.size = size) (hby : i.bytes = bytes) (hzs : z.cells.size = size) (hsz : 0 < size)
    (v : Value) (n : Nat) (xs : List Value) (hown : w.ownsRow base e size v n xs)
    (B : Nat) (A : Option Addr) (m c : Nat) (news : List Value) (hr : Rd w B size A m news) (h1 : ∀ u ∈ news, u.oneCell' = true)
    (h63 : n + m ≤ maxLen) (hbytes : (n + m) * bytes ≤ 140737488355328) (hbase : base ≤ w.heap.size) :
    ∃ v' w', (Builtin.append_ #[t, t] ty #[v, .slice A m c]).run P w = .ok v' w' ∧ w'.ownsRow base e size v' (n + m) (xs ++ news) ∧ w.grownBy w' v.ownBlock ∧ (v'.ownBlock = v.ownBlock ∨ v'.ownBlock = some w.heap.size) := by
  rcases A with _ | ad
  · obtain rfl : m = 0 := by
      rcases Nat.eq_zero_or_pos m with h0 | h0
      · exact h0
      · obtain ⟨ad, h, _⟩ := hr.2 h0
        cases h
    obtain rfl : news = [] := List.eq_nil_of_length_eq_zero (by simpa using hr.1)
    refine ⟨v, w, ?_, by simpa using hown, World.grownBy.refl w _, .inl rfl⟩
    rcases hown.2 with ⟨rfl, rfl⟩ | ⟨g, cap, cur, rfl, _, _, hnc, _⟩
    · simp [Builtin.append_, run_underlying ht, sizeOf, typeInfo, hi, Builtin.lenOf, Builtin.firstCells]
    · simp [Builtin.append_, run_underlying ht, sizeOf, typeInfo, hi, Builtin.lenOf, Builtin.firstCells, hnc, storeCells]
  · have hcells : ∀ j u, news[j]? = some u → w.cell? (ad.add j) = some u := by
      intro j u hu
      rcases Nat.eq_zero_or_pos m with h0 | h0
      · subst h0
        obtain rfl : news = [] := List.eq_nil_of_length_eq_zero (by simpa using hr.1)
        simp at hu
      · obtain ⟨ad', h, _, hc⟩ := hr.2 h0
        injection h with h
        subst h
        exact hc j u hu
    obtain ⟨v', w', hrun, h2, h3, _, h5⟩ := run_append_own_at (P := P) w base t ty e i z size bytes ht hi hz hsize hby hzs hsz v n xs hown ad m c news hr.1 hcells h1 h63 hbytes hbase
    exact ⟨v', w', hrun, h2, h3, h5⟩
def bv (c : UInt8) : Value := .int .u8 (c.toNat : Int)
def bvs (l : List UInt8) : List Value := l.map bv
theorem bvs_len (l : List UInt8) : (bvs l).length = l.length := by simp [bvs]
theorem bvs_one (l : List UInt8) : ∀ u ∈ bvs l, u.oneCell' = true := by
  intro u hu
  simp only [bvs, List.mem_map] at hu
  obtain ⟨c, _, rfl⟩ := hu
  rfl
theorem bvs_get (l : List UInt8) (k : Nat) (h : k < (bvs l).length) : (bvs l)[k] = .int .u8 ((l[k]'(by simpa [bvs] using h)).toNat : Int) := by simp [bvs, bv]
def sv (l : List UInt8) : Value := .string ⟨l.toArray⟩
/-- each of the values is a slice that reads asq the bytes -/
def RdAll (w : World) (B : Nat) (vs : List Value) (xss : List (List UInt8)) : Prop :=
  vs.length = xss.length ∧ ∀ k (h : k < xss.length), ∃ A c, vs[k]? = some (.slice A (xss[k]).length c) ∧ (xss[k]).length ≤ c ∧ Rd w B 1 A (xss[k]).length (bvs xss[k])
theorem RdAll.keep {w w' : World} {B : Nat} {vs : List Value} {xss : List (List UInt8)} (h : RdAll w B vs xss) (hk : ∀ p : Addr, p.block < B → w'.cell? p = w.cell? p) : RdAll w' B vs xss := by
  refine ⟨h.1, fun k hk' => ?_⟩
  obtain ⟨A, c, h1, h2, h3⟩ := h.2 k hk'
  exact ⟨A, c, h1, h2, h3.keep hk⟩
theorem RdAll.below {w w' : World} {B : Nat} {vs : List Value} {xss : List (List UInt8)} (h : RdAll w B vs xss) (hb : Below B w w') : RdAll w' B vs xss := h.keep fun _ hp => hb.cell hp
theorem RdAll.up {w : World} {B B' : Nat} {vs : List Value} {xss : List (List UInt8)} (h : RdAll w B vs xss) (hB : B ≤ B') : RdAll w B' vs xss := by
  refine ⟨h.1, fun k hk' => ?_⟩
  obtain ⟨A, c, h1, h2, h3⟩ := h.2 k hk'
  exact ⟨A, c, h1, h2, h3.up hB⟩
theorem OwnAll.reads {w : World} {base : Nat} {e : TypeId} {ps : List Value} {xss : List (List UInt8)} (h : OwnAll w base e ps (xss.map bvs)) : RdAll w w.heap.size ps xss := by
  have hl := h.len
  rw [List.length_map] at hl
  refine ⟨hl, fun k hk => ?_⟩
  have hg := h.get k (by omega) (by simpa using hk)
  simp only [List.getElem_map, bvs_len] at hg
  obtain ⟨A, c, e1, h1, _⟩ := own_shape hg
  rw [e1] at hg
  exact ⟨A, c, by rw [List.getElem?_eq_getElem (by omega), e1], h1, Rd.of_own hg⟩
/-- 'string(b)' -/
theorem run_string_rd {P : Program} {w : World} (src dst e : TypeId) (hs : P.underlying src = some (.slice e)) (he : P.underlying e = some (.int .u8)) (hd : P.underlying dst = some .string)
    {B n : Nat} {A : Option Addr} {xs : List UInt8} (c : Nat) (hr : Rd w B 1 A n (bvs xs)) : (convert src dst (.slice A n c)).run P w = .ok (.string ⟨xs.toArray⟩) w := by
  have hn : xs.length = n := by simpa [bvs] using hr.1
  rcases A with _ | ad
  · obtain rfl : xs = [] := by
      apply List.eq_nil_of_length_eq_zero
      rcases Nat.eq_zero_or_pos n with h0 | h0
      · omega
      · obtain ⟨ad, h, _⟩ := hr.2 h0
        cases h
    exact run_convert_bytes_nil w src e hs he n c dst hd
  · have hl : (loadCells ad n).run P w = .ok (bvs xs).toArray w := by
      have := run_loadCells_list (P := P) w ad (bvs xs) (fun j v hj => by
        have hjl : j < (bvs xs).length := (List.getElem?_eq_some_iff.1 hj).1
        obtain ⟨ad', h, _, hc⟩ := hr.2 (by rw [bvs_len] at hjl; omega)
        injection h with h
        subst h
        exact hc j v hj)
      simpa [bvs_len, hn] using this
    have hl' : (loadCells ad n).run P w = .ok ((xs.map (fun c => (c.toNat : Int))).map (Value.int .u8)).toArray w := by
      rw [hl]; simp [bvs, bv, Function.comp_def]
    rw [run_convert_bytes_string w src dst e _ n c hs he hd, run_bytesToString w _ n c _ hl', foldl_push_bytes]
    simp [ByteArray.empty, ByteArray.emptyWithCapacity, Function.comp_def]
    rfl
/-- '[]byte(s)' -/
theorem run_bytes_rd {P : Program} (w : World) (src dst e : TypeId) (l : List UInt8) (hs : P.underlying src = some .string) (hd : P.underlying dst = some (.slice e)) (he : P.underlying e = some (.int .u8)) :
    ∃ c w', (convert src dst (.string ⟨l.toArray⟩)).run P w = .ok (.slice (some ⟨w.heap.size, 0, none⟩) l.length c) w' ∧ l.length ≤ c ∧ Rd w' w'.heap.size 1 (some ⟨w.heap.size, 0, none⟩) l.length (bvs l) ∧ Below w.heap.size w w' := by
  refine ⟨_, _, run_bytes_of_string (P := P) w src dst e ⟨l.toArray⟩ hs hd he, ?_, ⟨by simp [bvs], fun _ => ⟨_, rfl, by simp, fun j u hu => ?_⟩⟩, (Below.refl _ _).drew.alloc (Nat.le_refl _) _⟩
  · exact grownCap_ge w _ 0 e
  · have hadd : (⟨w.heap.size, 0, none⟩ : Addr).add j = ⟨w.heap.size, j, none⟩ := by unfold Addr.add; split <;> simp_all
    have hj : j < l.length := by
      have := (List.getElem?_eq_some_iff.1 hu).1
      rwa [bvs_len] at this
    rw [hadd, cell_of_row _ w.heap.size j _ e _ (heap_alloc_new w.drew _), bytesRow_at _ _ j (by simpa using hj)]
    rw [← hu, List.getElem?_eq_getElem (by rw [bvs_len]; exact hj), bvs_get]
    simp
end Go.Proofs.Ythgackidonocpaa
namespace Go.Proofs.Ythgackidonocpaa
open Go.RowKit
/-- what a value reads asq; memory that is never written any more -/
inductive T where
  | lit (v : Value)
  | row (n sz : Nat) (cs : List T)
  | agg (cs : List T)
  | tup (cs : List T)
  | fn (f : Fn) (cap : List T)
  | pin (cs : List T) (off : Nat)
abbrev Mm := Addr → Option Value
def At (M : Mm) (ad : Addr) (xs : List Value) : Prop := ∀ j x, xs[j]? = some x → M (ad.add j) = some x
mutual
def RT (M : Mm) : T → Value → Prop
  | .lit v, u => u = v
  | .row n sz cs, u => ∃ (A : Option Addr) (c : Nat) (xs : List Value), u = .slice A n c ∧ n ≤ c ∧ n ≤ maxLen ∧ 0 < sz ∧ xs.length = n * sz ∧ (0 < n → ∃ ad, A = some ad ∧ At M ad xs) ∧ RTs M cs xs
  | .agg cs, u => ∃ xs : List Value, u = .agg xs.toArray ∧ RTs M cs xs
  | .tup cs, u => ∃ xs : List Value, u = .tuple xs.toArray ∧ RTs M cs xs
  | .fn f cap, u => ∃ xs : List Value, u = .func f #[] xs.toArray ∧ RTs M cap xs
  | .pin cs off, u => ∃ (ad : Addr) (xs : List Value), u = .pointer (some (ad.add off)) ∧ At M ad xs ∧ RTs M cs xs
def RTs (M : Mm) : List T → List Value → Prop
  | [], xs => xs = []
  | t :: ts, xs => ∃ (x : Value) (r : List Value), xs = x :: r ∧ RT M t x ∧ RTs M ts r
end
/-- more memory, what is new from block B on -/
def Ext (B : Nat → Prop) (M M' : Mm) : Prop := (∀ p v, M p = some v → M' p = some v) ∧ ∀ p v, M' p = some v → M p = some v ∨ B p.block
def fr (B : Nat) (b : Nat) : Prop := B ≤ b
def Sub (M M' : Mm) : Prop := ∀ p v, M p = some v → M' p = some v
theorem Sub.refl (M : Mm) : Sub M M := fun _ _ h => h
theorem Sub.trans {M M' M'' : Mm} (h : Sub M M') (h' : Sub M' M'') : Sub M M'' := fun p v hp => h' p v (h p v hp)
theorem Ext.sub {B : Nat → Prop} {M M' : Mm} (h : Ext B M M') : Sub M M' := h.1
theorem Ext.refl (B : Nat → Prop) (M : Mm) : Ext B M M := ⟨fun _ _ h => h, fun _ _ h => .inl h⟩
theorem Ext.trans {B : Nat → Prop} {M M' M'' : Mm} (h : Ext B M M') (h' : Ext B M' M'') : Ext B M M'' :=
  ⟨fun p v hp => h'.1 p v (h.1 p v hp), fun p v hp => (h'.2 p v hp).elim (fun h1 => h.2 p v h1) .inr⟩
theorem Ext.to {B B' : Nat → Prop} {M M' : Mm} (h : Ext B M M') (hB : ∀ b, B b → B' b) : Ext B' M M' := ⟨h.1, fun p v hp => (h.2 p v hp).imp id (hB _)⟩
theorem At.mono {M M' : Mm} {ad : Addr} {xs : List Value} (h : At M ad xs) (hs : Sub M M') : At M' ad xs := fun j x hx => hs _ _ (h j x hx)
mutual
theorem RT.mono {M M' : Mm} (hs : Sub M M') : ∀ (t : T) (u : Value), RT M t u → RT M' t u
  | .lit v, u, h => by simp only [RT] at h ⊢; exact h
  | .row n sz cs, u, h => by
    simp only [RT] at h ⊢
    obtain ⟨A, c, xs, h1, h2, h3, h4, h5, h6, h7⟩ := h
    refine ⟨A, c, xs, h1, h2, h3, h4, h5, fun hn => ?_, RTs.mono hs cs xs h7⟩
    obtain ⟨ad, e, ha⟩ := h6 hn
    exact ⟨ad, e, ha.mono hs⟩
  | .agg cs, u, h => by
    simp only [RT] at h ⊢
    obtain ⟨xs, h1, h2⟩ := h
    exact ⟨xs, h1, RTs.mono hs cs xs h2⟩
  | .tup cs, u, h => by
    simp only [RT] at h ⊢
    obtain ⟨xs, h1, h2⟩ := h
    exact ⟨xs, h1, RTs.mono hs cs xs h2⟩
  | .fn f cap, u, h => by
    simp only [RT] at h ⊢
    obtain ⟨xs, h1, h2⟩ := h
    exact ⟨xs, h1, RTs.mono hs cap xs h2⟩
  | .pin cs off, u, h => by
    simp only [RT] at h ⊢
    obtain ⟨ad, xs, h1, h2, h3⟩ := h
    exact ⟨ad, xs, h1, h2.mono hs, RTs.mono hs cs xs h3⟩
theorem RTs.mono {M M' : Mm} (hs : Sub M M') : ∀ (ts : List T) (xs : List Value), RTs M ts xs → RTs M' ts xs
  | [], xs, h => by simp only [RTs] at h ⊢; exact h
  | t :: ts, xs, h => by
    simp only [RTs] at h ⊢
    obtain ⟨x, r, e, h1, h2⟩ := h
    exact ⟨x, r, e, RT.mono hs t x h1, RTs.mono hs ts r h2⟩
end
theorem RTs.len {M : Mm} : ∀ {ts : List T} {xs : List Value}, RTs M ts xs → xs.length = ts.length
  | [], _, h => by simp only [RTs] at h; simp [h]
  | t :: ts, _, h => by
    simp only [RTs] at h
    obtain ⟨x, r, rfl, _, h2⟩ := h
    simp [RTs.len h2]
theorem RTs.get {M : Mm} : ∀ {ts : List T} {xs : List Value} {j : Nat} {t : T}, RTs M ts xs → ts[j]? = some t → ∃ x, xs[j]? = some x ∧ RT M t x
  | [], _, _, _, _, hj => by simp at hj
  | t :: ts, _, 0, t', h, hj => by
    simp only [RTs] at h
    obtain ⟨x, r, rfl, h1, _⟩ := h
    obtain rfl : t = t' := by simpa using hj
    exact ⟨x, rfl, h1⟩
  | t :: ts, _, j + 1, t', h, hj => by
    simp only [RTs] at h
    obtain ⟨x, r, rfl, _, h2⟩ := h
    obtain ⟨y, h3, h4⟩ := RTs.get (j := j) (t := t') h2 (by simpa using hj)
    exact ⟨y, by simpa using h3, h4⟩
theorem RTs.app {M : Mm} : ∀ {ts us : List T} {xs ys : List Value}, RTs M ts xs → RTs M us ys → RTs M (ts ++ us) (xs ++ ys)
  | [], _, _, _, h, h' => by simp only [RTs] at h; subst h; simpa using h'
  | t :: ts, us, _, ys, h, h' => by
    simp only [RTs] at h
    obtain ⟨x, r, rfl, h1, h2⟩ := h
    simp only [List.cons_append, RTs]
    exact ⟨x, r ++ ys, rfl, h1, RTs.app h2 h'⟩
theorem RTs.drop {M : Mm} : ∀ {ts : List T} {xs : List Value} (k : Nat), RTs M ts xs → RTs M (ts.drop k) (xs.drop k)
  | _, _, 0, h => h
  | [], _, k + 1, h => by simp only [RTs] at h; subst h; simp [RTs]
  | t :: ts, _, k + 1, h => by
    simp only [RTs] at h
    obtain ⟨x, r, rfl, h1, h2⟩ := h
    simpa using RTs.drop k h2
theorem RTs.take {M : Mm} : ∀ {ts : List T} {xs : List Value} (k : Nat), RTs M ts xs → RTs M (ts.take k) (xs.take k)
  | _, _, 0, h => by simp [RTs]
  | [], _, k + 1, h => by simp only [RTs] at h; subst h; simp [RTs]
  | t :: ts, _, k + 1, h => by
    simp only [RTs] at h
    obtain ⟨x, r, rfl, h1, h2⟩ := h
    simp only [List.take_succ_cons, RTs]
    exact ⟨x, r.take k, rfl, h1, RTs.take k h2⟩
/-- what is known of memory is there -/
def MemOk (M : Mm) (w : World) : Prop := ∀ p v, M p = some v → w.cell? p = some v ∧ v.oneCell' = true
/-- a function with a body -/
def Enters (P : Program) (f : FuncId) : Prop := ∃ fn, P.funcs[f]? = some fn ∧ (fn.name == "runtime.NumGoroutine") = false ∧ fn.body.isNone = false
/-- the function, given values that read so, returns a value that reads so; nothing that was there is written -/
def AF (P : Program) (f : FuncId) (args : List T) (R : T → Prop) : Prop :=
  Enters P f ∧ ∀ (M : Mm) (w : World) (vs : List Value), MemOk M w → RTs M args vs →
    Calls P f vs.toArray w fun e w' => ∃ v r M', e = .returned v ∧ R r ∧ Ext (fr w.heap.size) M M' ∧ MemOk M' w' ∧ RT M' r v ∧ Below w.heap.size w w'
/-- what a slot holds; the first number of a pointer or a row of the call's own is a hint alone: where it stands among the blocks -/
inductive AV where
  | c (t : T)
  | agg (cs : List AV)
  | tup (cs : List AV)
  | fn (f : Fn) (cap : List AV)
  | ptr (i b off : Nat)
  | own (i : Nat) (v : Value)
  | eptr (i : Nat) (v : Value) (k : Nat)
  | junk
mutual
def RA (M : Mm) : AV → Value → Prop
  | .c t, u => RT M t u
  | .agg cs, u => ∃ xs : List Value, u = .agg xs.toArray ∧ RAs M cs xs
  | .tup cs, u => ∃ xs : List Value, u = .tuple xs.toArray ∧ RAs M cs xs
  | .fn f cap, u => ∃ xs : List Value, u = .func f #[] xs.toArray ∧ RAs M cap xs
  | .ptr _ b off, u => u = .pointer (some ⟨b, off, none⟩)
  | .own _ v, u => u = v ∧ v.oneCell' = true
  | .eptr _ v k, u => ∃ ad n c, v = .slice (some ad) n c ∧ u = .pointer (some (ad.add k))
  | .junk, _ => True
def RAs (M : Mm) : List AV → List Value → Prop
  | [], xs => xs = []
  | t :: ts, xs => ∃ (x : Value) (r : List Value), xs = x :: r ∧ RA M t x ∧ RAs M ts r
end
mutual
theorem RA.mono {M M' : Mm} (hs : Sub M M') : ∀ (t : AV) (u : Value), RA M t u → RA M' t u
  | .c t, u, h => by simp only [RA] at h ⊢; exact RT.mono hs t u h
  | .agg cs, u, h => by
    simp only [RA] at h ⊢
    obtain ⟨xs, h1, h2⟩ := h
    exact ⟨xs, h1, RAs.mono hs cs xs h2⟩
  | .tup cs, u, h => by
    simp only [RA] at h ⊢
    obtain ⟨xs, h1, h2⟩ := h
    exact ⟨xs, h1, RAs.mono hs cs xs h2⟩
  | .fn f cap, u, h => by
    simp only [RA] at h ⊢
    obtain ⟨xs, h1, h2⟩ := h
    exact ⟨xs, h1, RAs.mono hs cap xs h2⟩
  | .ptr i b off, u, h => by simp only [RA] at h ⊢; exact h
  | .own i v, u, h => by simp only [RA] at h ⊢; exact h
  | .eptr i v k, u, h => by simp only [RA] at h ⊢; exact h
  | .junk, u, h => by simp only [RA]
theorem RAs.mono {M M' : Mm} (hs : Sub M M') : ∀ (ts : List AV) (xs : List Value), RAs M ts xs → RAs M' ts xs
  | [], xs, h => by simp only [RAs] at h ⊢; exact h
  | t :: ts, xs, h => by
    simp only [RAs] at h ⊢
    obtain ⟨x, r, e, h1, h2⟩ := h
    exact ⟨x, r, e, RA.mono hs t x h1, RAs.mono hs ts r h2⟩
end
theorem RAs.len {M : Mm} : ∀ {ts : List AV} {xs : List Value}, RAs M ts xs → xs.length = ts.length
  | [], _, h => by simp only [RAs] at h; simp [h]
  | t :: ts, _, h => by
    simp only [RAs] at h
    obtain ⟨x, r, rfl, _, h2⟩ := h
    simp [RAs.len h2]
theorem RAs.get {M : Mm} : ∀ {ts : List AV} {xs : List Value} {j : Nat} {t : AV}, RAs M ts xs → ts[j]? = some t → ∃ x, xs[j]? = some x ∧ RA M t x
  | [], _, _, _, _, hj => by simp at hj
  | t :: ts, _, 0, t', h, hj => by
    simp only [RAs] at h
    obtain ⟨x, r, rfl, h1, _⟩ := h
    obtain rfl : t = t' := by simpa using hj
    exact ⟨x, rfl, h1⟩
  | t :: ts, _, j + 1, t', h, hj => by
    simp only [RAs] at h
    obtain ⟨x, r, rfl, _, h2⟩ := h
    obtain ⟨y, h3, h4⟩ := RAs.get (j := j) (t := t') h2 (by simpa using hj)
    exact ⟨y, by simpa using h3, h4⟩
theorem RAs.app {M : Mm} : ∀ {ts us : List AV} {xs ys : List Value}, RAs M ts xs → RAs M us ys → RAs M (ts ++ us) (xs ++ ys)
  | [], _, _, _, h, h' => by simp only [RAs] at h; subst h; simpa using h'
  | t :: ts, us, _, ys, h, h' => by
    simp only [RAs] at h
    obtain ⟨x, r, rfl, h1, h2⟩ := h
    simp only [List.cons_append, RAs]
    exact ⟨x, r ++ ys, rfl, h1, RAs.app h2 h'⟩
theorem RAs.drop {M : Mm} : ∀ {ts : List AV} {xs : List Value} (k : Nat), RAs M ts xs → RAs M (ts.drop k) (xs.drop k)
  | _, _, 0, h => h
  | [], _, k + 1, h => by simp only [RAs] at h; subst h; simp [RAs]
  | t :: ts, _, k + 1, h => by
    simp only [RAs] at h
    obtain ⟨x, r, rfl, h1, h2⟩ := h
    simpa using RAs.drop k h2
theorem RAs.take {M : Mm} : ∀ {ts : List AV} {xs : List Value} (k : Nat), RAs M ts xs → RAs M (ts.take k) (xs.take k)
  | _, _, 0, h => by simp [RAs]
  | [], _, k + 1, h => by simp only [RAs] at h; subst h; simp [RAs]
  | t :: ts, _, k + 1, h => by
    simp only [RAs] at h
    obtain ⟨x, r, rfl, h1, h2⟩ := h
    simp only [List.take_succ_cons, RAs]
    exact ⟨x, r.take k, rfl, h1, RAs.take k h2⟩
theorem RAs.set {M : Mm} : ∀ {ts : List AV} {xs : List Value} (k : Nat) {t : AV} {x : Value}, RAs M ts xs → RA M t x → RAs M (ts.set k t) (xs.set k x)
  | [], _, _, _, _, h, _ => by simp only [RAs] at h; subst h; simp [RAs]
  | a :: ts, _, 0, _, _, h, ht => by
    simp only [RAs] at h
    obtain ⟨x, r, rfl, h1, h2⟩ := h
    simp only [List.set_cons_zero, RAs]
    exact ⟨_, _, rfl, ht, h2⟩
  | a :: ts, _, k + 1, _, _, h, ht => by
    simp only [RAs] at h
    obtain ⟨x, r, rfl, h1, h2⟩ := h
    simp only [List.set_cons_succ, RAs]
    exact ⟨_, _, rfl, h1, RAs.set k h2 ht⟩
theorem RAs.ofT {M : Mm} : ∀ {ts : List T} {xs : List Value}, RTs M ts xs → RAs M (ts.map .c) xs
  | [], _, h => by simp only [RTs] at h; simp [h, RAs]
  | t :: ts, _, h => by
    simp only [RTs] at h
    obtain ⟨x, r, rfl, h1, h2⟩ := h
    simp only [List.map_cons, RAs, RA]
    exact ⟨x, r, rfl, h1, RAs.ofT h2⟩
theorem RAs.toT {M : Mm} : ∀ {ts : List T} {xs : List Value}, RAs M (ts.map .c) xs → RTs M ts xs
  | [], _, h => by simp only [List.map_nil, RAs] at h; simp [h, RTs]
  | t :: ts, _, h => by
    simp only [List.map_cons, RAs, RA] at h
    obtain ⟨x, r, rfl, h1, h2⟩ := h
    simp only [RTs]
    exact ⟨x, r, rfl, h1, RAs.toT h2⟩
/-- a block of the call's own: a variable, or a row that may grow -/
inductive Blk where
  | box (b : Nat) (t : TypeId) (cs : List AV)
  | row (v : Value) (e : TypeId) (sz n : Nat) (cs : List T)
  | mp (b : Nat) (es : List (Value × T))
  | dead
def Blk.blk : Blk → Option Nat
  | .box b _ _ => some b
  | .row v _ _ _ _ => v.ownBlock
  | .mp b _ => some b
  | .dead => none
def OneAll (xs : List Value) : Prop := ∀ x ∈ xs, x.oneCell' = true
def BlkOk (M : Mm) (w : World) : Blk → Prop
  | .box b t cs => ∃ xs : List Value, w.heap[b]? = some (.cells xs.toArray t) ∧ RAs M cs xs ∧ OneAll xs
  | .row v e sz n cs => ∃ xs : List Value, w.ownsRow 0 e sz v n xs ∧ RTs M cs xs ∧ OneAll xs ∧ 0 < sz
  | .mp b es => ∃ (l : List MapEntry) (clock : Nat), w.heap[b]? = some (.map l.toArray clock) ∧ l.map (·.key) = es.map (·.1) ∧ RTs M (es.map (·.2)) (l.map (·.val))
  | .dead => True
/-- from which world on, and which of its blocks may be written -/
structure Frm where
  w0 : World
  X : Nat → Prop
  M0 : Mm
def Frm.may (F : Frm) (b : Nat) : Prop := F.X b ∨ F.w0.heap.size ≤ b
theorem Ext.low {F : Frm} {B : Nat} {M M' : Mm} (h : Ext (fr B) M M') (hB : F.w0.heap.size ≤ B) : Ext F.may M M' := h.to fun _ hb => .inr (Nat.le_trans hB hb)
structure Keeps (F : Frm) (w : World) : Prop where
  os : w.os = F.w0.os
  tape : w.tape = F.w0.tape
  output : w.output = F.w0.output
  size : F.w0.heap.size ≤ w.heap.size
  block : ∀ b, b < F.w0.heap.size → ¬ F.X b → w.heap[b]? = F.w0.heap[b]?
structure HeapOk (F : Frm) (M : Mm) (hp : List Blk) (w : World) : Prop where
  mem : MemOk M w
  ext : Ext F.may F.M0 M
  frm : Keeps F w
  at_ : ∀ (i : Nat) (x : Blk), hp[i]? = some x → BlkOk M w x
  sep : ∀ (i j : Nat) (x y : Blk) (b : Nat), hp[i]? = some x → hp[j]? = some y → x.blk = some b → y.blk = some b → i = j
  out : ∀ (i : Nat) (x : Blk) (b : Nat), hp[i]? = some x → x.blk = some b → F.may b ∧ ∀ p : Addr, p.block = b → M p = none
theorem BlkOk.keep {M M' : Mm} {w w' : World} {x : Blk} (h : BlkOk M w x) (hs : Sub M M') (hb : ∀ b, x.blk = some b → b < w.heap.size → w'.heap[b]? = w.heap[b]?) : BlkOk M' w' x := by
  cases x with
  | box b t cs =>
    obtain ⟨xs, h1, h2, h3⟩ := h
    exact ⟨xs, by rw [hb b rfl (Array.getElem?_eq_some_iff.1 h1).1]; exact h1, RAs.mono hs _ _ h2, h3⟩
  | row v e sz n cs =>
    obtain ⟨xs, h1, h2, h3, h4⟩ := h
    refine ⟨xs, ⟨h1.1, ?_⟩, RTs.mono hs _ _ h2, h3, h4⟩
    rcases h1.2 with hn | ⟨g, cap, cur, rfl, hg, hh, rest⟩
    · exact .inl hn
    · exact .inr ⟨g, cap, cur, rfl, hg, by rw [hb g rfl (Array.getElem?_eq_some_iff.1 hh).1]; exact hh, rest⟩
  | mp b es =>
    obtain ⟨l, clock, h1, h2, h3⟩ := h
    exact ⟨l, clock, by rw [hb b rfl (Array.getElem?_eq_some_iff.1 h1).1]; exact h1, h2, RTs.mono hs _ _ h3⟩
  | dead => trivial
theorem BlkOk.lt {M : Mm} {w : World} {x : Blk} (h : BlkOk M w x) {b : Nat} (hb : x.blk = some b) : b < w.heap.size := by
  cases x with
  | box b' t cs =>
    obtain ⟨xs, h1, _⟩ := h
    obtain rfl : b' = b := by simpa [Blk.blk] using hb
    exact (Array.getElem?_eq_some_iff.1 h1).1
  | row v e sz n cs =>
    obtain ⟨xs, h1, _⟩ := h
    rcases h1.2 with ⟨rfl, _⟩ | ⟨g, cap, cur, rfl, hg, hh, rest⟩
    · simp [Blk.blk, Value.ownBlock] at hb
    · obtain rfl : g = b := by simpa [Blk.blk, Value.ownBlock] using hb
      exact (Array.getElem?_eq_some_iff.1 hh).1
  | mp b' es =>
    obtain ⟨l, clock, h1, _⟩ := h
    obtain rfl : b' = b := by simpa [Blk.blk] using hb
    exact (Array.getElem?_eq_some_iff.1 h1).1
  | dead => simp [Blk.blk] at hb
/-- one step: the block of the i-th item may be written, memory may be added -/
theorem HeapOk.step {F : Frm} {M M' : Mm} {hp hp' : List Blk} {w w' : World} (h : HeapOk F M hp w) (i : Nat)
    (hos : w'.os = w.os) (htape : w'.tape = w.tape) (hout : w'.output = w.output) (hsz : w.heap.size ≤ w'.heap.size)
    (hblk : ∀ b, b < w.heap.size → (∀ x, hp[i]? = some x → x.blk ≠ some b) → w'.heap[b]? = w.heap[b]?)
    (hM : Ext (fr w.heap.size) M M') (hnew : ∀ p v, M' p = some v → M p = none → w'.cell? p = some v ∧ v.oneCell' = true)
    (hl : ∀ j : Nat, j ≠ i → hp'[j]? = hp[j]?) (hi : ∀ x', hp'[i]? = some x' → BlkOk M' w' x' ∧ ∀ b, x'.blk = some b → (∃ x, hp[i]? = some x ∧ x.blk = some b) ∨ (w.heap.size ≤ b ∧ ∀ p : Addr, p.block = b → M' p = none)) :
    HeapOk F M' hp' w' := by
  have hkeep : ∀ j x, hp[j]? = some x → j ≠ i → ∀ b, x.blk = some b → b < w.heap.size → w'.heap[b]? = w.heap[b]? := by
    intro j x hx hj b hb hlt
    refine hblk b hlt fun y hy hyb => hj (h.sep j i x y b hx hy hb hyb)
  have hMnone : ∀ b, b < w.heap.size → (∀ p : Addr, p.block = b → M p = none) → ∀ p : Addr, p.block = b → M' p = none := by
    intro b hb hp p hpb
    cases hc : M' p with
    | none => rfl
    | some v =>
      rcases hM.2 p v hc with h1 | h1
      · rw [hp p hpb] at h1; cases h1
      · unfold fr at h1; omega
  refine ⟨?_, h.ext.trans (hM.low h.frm.size), ?_, ?_, ?_, ?_⟩
  · intro p v hp
    cases hc : M p with
    | none => exact hnew p v hp hc
    | some u =>
      have hu := hM.1 p u hc
      rw [hp] at hu
      obtain rfl : v = u := by injection hu
      obtain ⟨h1, h2⟩ := h.mem p v hc
      refine ⟨?_, h2⟩
      have hlt := World.block_lt_of_cell? w p h1
      rw [World.cell?_of_block (w := w) (hblk p.block hlt fun x hx hxb => ?_)]
      · exact h1
      · have := (h.out i x p.block hx hxb).2 p rfl
        rw [hc] at this; cases this
  · refine ⟨hos.trans h.frm.os, htape.trans h.frm.tape, hout.trans h.frm.output, Nat.le_trans h.frm.size hsz, fun b hb hX => ?_⟩
    rw [hblk b (Nat.lt_of_lt_of_le hb h.frm.size) fun x hx hxb => ?_]
    · exact h.frm.block b hb hX
    · rcases (h.out i x b hx hxb).1 with h1 | h1
      · exact hX h1
      · omega
  · intro j x hx
    by_cases hj : j = i
    · subst hj; exact (hi x hx).1
    · rw [hl j hj] at hx
      exact (h.at_ j x hx).keep hM.sub (hkeep j x hx hj)
  · intro j k x y b hx hy hxb hyb
    by_cases hj : j = i
    · by_cases hk : k = i
      · rw [hj, hk]
      · subst hj
        rw [hl k hk] at hy
        rcases (hi x hx).2 b hxb with ⟨z, hz, hzb⟩ | ⟨h1, _⟩
        · exact h.sep j k z y b hz hy hzb hyb
        · have := (h.at_ k y hy).lt hyb; omega
    · by_cases hk : k = i
      · subst hk
        rw [hl j hj] at hx
        rcases (hi y hy).2 b hyb with ⟨z, hz, hzb⟩ | ⟨h1, _⟩
        · exact h.sep j k x z b hx hz hxb hzb
        · have := (h.at_ j x hx).lt hxb; omega
      · rw [hl j hj] at hx; rw [hl k hk] at hy
        exact h.sep j k x y b hx hy hxb hyb
  · intro j x b hx hxb
    by_cases hj : j = i
    · subst hj
      rcases (hi x hx).2 b hxb with ⟨z, hz, hzb⟩ | ⟨h1, h2⟩
      · obtain ⟨h3, h4⟩ := h.out j z b hz hzb
        exact ⟨h3, hMnone b ((h.at_ j z hz).lt hzb) h4⟩
      · exact ⟨.inr (Nat.le_trans h.frm.size h1), h2⟩
    · rw [hl j hj] at hx
      obtain ⟨h3, h4⟩ := h.out j x b hx hxb
      exact ⟨h3, hMnone b ((h.at_ j x hx).lt hxb) h4⟩
/-- nothing but the count of draws -/
theorem HeapOk.drew {F : Frm} {M : Mm} {hp : List Blk} {w : World} (h : HeapOk F M hp w) : HeapOk F M hp { w with drawn := w.drawn + 1 } :=
  ⟨h.mem, h.ext, ⟨h.frm.os, h.frm.tape, h.frm.output, h.frm.size, h.frm.block⟩, fun i x hx => (h.at_ i x hx).keep (Sub.refl _) fun _ _ _ => rfl, h.sep, h.out⟩
structure AS where
  tmps : Nat → AV
  hp : List Blk
  N : Nat
/-- a slot is written; the blocks are these now -/
def AS.st (σ : AS) (d : Option Tmp) (v : AV) (hp' : List Blk) : AS :=
  ⟨match d with | none => σ.tmps | some d => fun i => cond (Nat.beq i d && Nat.blt d σ.N) v (σ.tmps i), hp', σ.N⟩
def AS.ev (σ : AS) : Operand → AV
  | .tmp t => σ.tmps t
  | .const v => .c (.lit v)
  | .global g => .c (.lit (.pointer (some ⟨g, 0, none⟩)))
  | .func f => .fn (.func f) []
structure Rep (F : Frm) (M : Mm) (σ : AS) (a : Act) (w : World) : Prop where
  tmps : ∀ i, RA M (σ.tmps i) (a.tmps.getD i undef)
  size : a.tmps.size = σ.N
  defers : a.defers = []
  heap : HeapOk F M σ.hp w
theorem Rep.ev {F : Frm} {M : Mm} {σ : AS} {a : Act} {w : World} (h : Rep F M σ a w) (x : Operand) : RA M (σ.ev x) (a.eval x) := by
  cases x with
  | tmp t => exact h.tmps t
  | const v => simp only [AS.ev, Act.eval, RA, RT]
  | global g => simp only [AS.ev, Act.eval, RA, RT]
  | func f => simp only [AS.ev, Act.eval, RA, RAs]; exact ⟨[], rfl, rfl⟩
theorem Rep.st {F : Frm} {M M' : Mm} {σ : AS} {a : Act} {w w' : World} (h : Rep F M σ a w) (hs : Sub M M') {hp' : List Blk} (hh : HeapOk F M' hp' w') (d : Option Tmp) {v : AV} {u : Value} (hv : RA M' v u) :
    Rep F M' (σ.st d v hp') (a.put d u) w' := by
  cases d with
  | none => exact ⟨fun i => RA.mono hs _ _ (h.tmps i), h.size, h.defers, hh⟩
  | some d =>
    refine ⟨fun i => ?_, by simp [Act.put, AS.st, h.size], h.defers, hh⟩
    simp only [AS.st, Act.put, Array.getD_eq_getD_getElem?, Array.getElem?_setIfInBounds]
    by_cases hi : d = i
    · subst hi
      by_cases hd : d < σ.N
      · have : Nat.blt d σ.N = true := Nat.ble_eq_true_of_le hd
        rw [if_pos rfl, if_pos (by rw [h.size]; exact hd), this, Nat.beq_refl]
        exact hv
      · have hbl : Nat.blt d σ.N = false := by
          cases hc : Nat.blt d σ.N with
          | false => rfl
          | true => exact absurd (Nat.le_of_ble_eq_true hc) hd
        have := RA.mono hs _ _ (h.tmps d)
        rw [if_pos rfl, if_neg (by rw [h.size]; exact hd), hbl, Bool.and_false]
        have hn : a.tmps.getD d undef = undef := by simp [Array.getD_eq_getD_getElem?, h.size, hd]
        rw [hn] at this
        exact this
    · have hb : Nat.beq i d = false := by
        cases hc : Nat.beq i d with
        | false => rfl
        | true => exact absurd (Nat.eq_of_beq_eq_true hc).symm hi
      rw [if_neg hi, hb]
      have := RA.mono hs _ _ (h.tmps i)
      simpa [Array.getD_eq_getD_getElem?] using this
end Go.Proofs.Ythgackidonocpaa
namespace Go.Proofs.Ythgackidonocpaa
open Go.RowKit
/-- what is asked once an operation has yielded this -/
def Yl (P : Program) (r : Result Next) (next : Value → World → Prop) : Prop :=
  match r with
  | .ok (.value u) w' => next u w'
  | .ok .skip w' => next undef w'
  | .ok (.enter f args) w' => Calls P f args w' fun e w'' => ∃ v, e = .returned v ∧ next v w''
  | _ => False
theorem Yl.mono {P : Program} {r : Result Next} {next next' : Value → World → Prop} (h : Yl P r next) (hn : ∀ u w, next u w → next' u w) : Yl P r next' := by
  unfold Yl at *
  split <;> simp_all
  exact h.mono fun e w'' ⟨v, he, hv⟩ => ⟨v, he, hn _ _ hv⟩
/-- one operation, at operands that read so -/
structure LO (P : Program) (F : Frm) (o : Oper) (ρ : Operand → AV) (hp : List Blk) (K : AV → List Blk → Prop) : Prop where
  out : ∀ (M : Mm) (e : Operand → Value) (w : World), (∀ x ∈ o.op.operands.toList, RA M (ρ x) (e x)) → HeapOk F M hp w →
    Yl P ((execOp e o).run P w) fun u w' => ∃ M' v hp', K v hp' ∧ Ext F.may M M' ∧ HeapOk F M' hp' w' ∧ RA M' v u
theorem LO.mono {P : Program} {F : Frm} {o : Oper} {ρ : Operand → AV} {hp : List Blk} {K K' : AV → List Blk → Prop} (h : LO P F o ρ hp K) (hk : ∀ v hp', K v hp' → K' v hp') : LO P F o ρ hp K' :=
  ⟨fun M e w h1 h2 => (h.out M e w h1 h2).mono fun _ _ ⟨M', v, hp', h3, h4⟩ => ⟨M', v, hp', hk _ _ h3, h4⟩⟩
theorem LO.congr {P : Program} {F : Frm} {o : Oper} {ρ ρ' : Operand → AV} {hp : List Blk} {K : AV → List Blk → Prop} (h : LO P F o ρ hp K) (hk : ∀ x ∈ o.op.operands.toList, ρ' x = ρ x) : LO P F o ρ' hp K :=
  ⟨fun M e w h1 h2 => h.out M e w (fun x hx => by rw [← hk x hx]; exact h1 x hx) h2⟩
/-- a value, the world asq it was -/
theorem LO.same {P : Program} {F : Frm} {o : Oper} {ρ : Operand → AV} {hp : List Blk} {K : AV → List Blk → Prop} {v : AV}
    (h : ∀ (M : Mm) (e : Operand → Value) (w : World), (∀ x ∈ o.op.operands.toList, RA M (ρ x) (e x)) → HeapOk F M hp w → ∃ u, (execOp e o).run P w = .ok (.value u) w ∧ RA M v u) (hK : K v hp) : LO P F o ρ hp K := by
  refine ⟨fun M e w h1 h2 => ?_⟩
  obtain ⟨u, hr, hu⟩ := h M e w h1 h2
  rw [hr]
  exact ⟨M, v, hp, hK, Ext.refl _ _, h2, hu⟩
/-- operations in their order -/
structure AL (P : Program) (F : Frm) (ops : Array Oper) (K : AS → Prop) (l : List Oper) (σ : AS) : Prop where
  out : ∀ (M : Mm) (a : Act) (w : World), Rep F M σ a w → ∀ Q : Exit → Act → World → Prop, (∀ M' σ' a' w', K σ' → Rep F M' σ' a' w' → Q .normal a' w') → wpList P ops Q l a w
structure AC (P : Program) (F : Frm) (c : Code) (Q : Exit → AS → Prop) (σ : AS) : Prop where
  out : ∀ (M : Mm) (a : Act) (w : World), Rep F M σ a w → c.wp P (fun e a' w' => ∃ M' σ', Q e σ' ∧ Rep F M' σ' a' w') a w
section
variable {P : Program} {F : Frm}
theorem Yl.wp {o : Oper} {a : Act} {w : World} {next : Value → World → Prop} (h : Yl P ((execOp a.eval o).run P w) next) {K : Act → World → Prop} (Q : Exit → Act → World → Prop) (hk : ∀ u w', next u w' → K (a.put o.dst u) w') : o.wp P a w K Q := by
  unfold Oper.wp
  unfold Yl at h
  split at h
  · rename_i hr; rw [hr]; exact hk _ _ h
  · rename_i hr; rw [hr]; exact hk _ _ h
  · rename_i hr
    rw [hr]
    exact h.mono fun e w'' ⟨v, he, hv⟩ => by subst he; exact hk _ _ hv
  · exact h.elim
theorem al_nil {ops : Array Oper} {K : AS → Prop} {σ : AS} (h : K σ) : AL P F ops K [] σ := ⟨fun M a w hr _ hQ => hQ M σ a w h hr⟩
theorem al_op {ops : Array Oper} {K : AS → Prop} {σ : AS} {rest : List Oper} {d : Option Tmp} {op : Op} {ty : TypeId} {pos : String} {aft : Array Edge}
    (h : LO P F ⟨d, op, ty, pos, aft, none⟩ σ.ev σ.hp fun v hp' => AL P F ops K rest (σ.st d v hp')) : AL P F ops K (⟨d, op, ty, pos, aft, none⟩ :: rest) σ := by
  refine ⟨fun M a w hr Q hQ => ?_⟩
  refine wpList_plain rfl fun K' hK' => ?_
  refine (h.out M a.eval w (fun x _ => hr.ev x) hr.heap).wp Q fun u w' ⟨M', v, hp', h1, h2, h3, h4⟩ => hK' _ _ (h1.out M' _ _ (hr.st h2.sub h3 _ h4) Q hQ)
theorem yielded_of {M : Mm} {σ : AS} {a : Act} {w : World} (hr : Rep F M σ a w) {ops : Array Oper} {g : Nat} {d : Tmp} {c : Bool} (hd : (ops[g]?).bind (·.dst) = some d) (hv : σ.tmps d = .c (.lit (.bool c))) : yielded ops a.tmps g = some c := by
  have h := hr.tmps d
  rw [hv] at h
  simp only [RA, RT] at h
  unfold yielded
  rw [hd]
  simp only [Option.bind_some]
  rw [Array.getD_eq_getD_getElem?] at h
  cases hc : a.tmps[d]? with
  | none => rw [hc] at h; simp [undef] at h
  | some u => rw [hc] at h; simp at h; simp [h]
theorem al_do {ops : Array Oper} {K : AS → Prop} {σ : AS} {rest : List Oper} {dt : Option Tmp} {op : Op} {ty : TypeId} {pos : String} {aft : Array Edge} {g : Nat} {b : Bool} (d : Tmp)
    (hd : (ops[g]?).bind (·.dst) = some d) (hv : σ.tmps d = .c (.lit (.bool b)))
    (h : LO P F ⟨dt, op, ty, pos, aft, some (g, b)⟩ σ.ev σ.hp fun v hp' => AL P F ops K rest (σ.st dt v hp')) : AL P F ops K (⟨dt, op, ty, pos, aft, some (g, b)⟩ :: rest) σ := by
  refine ⟨fun M a w hr Q hQ => ?_⟩
  refine wpList_step fun K' hK' => ?_
  rw [if_pos (by simp [Region.wanted, yielded_of hr hd hv])]
  refine (h.out M a.eval w (fun x _ => hr.ev x) hr.heap).wp Q fun u w' ⟨M', v, hp', h1, h2, h3, h4⟩ => hK' _ _ (h1.out M' _ _ (hr.st h2.sub h3 _ h4) Q hQ)
theorem al_not {ops : Array Oper} {K : AS → Prop} {σ : AS} {rest : List Oper} {dt : Option Tmp} {op : Op} {ty : TypeId} {pos : String} {aft : Array Edge} {g : Nat} {b : Bool} (d : Tmp)
    (hd : (ops[g]?).bind (·.dst) = some d) (hv : σ.tmps d = .c (.lit (.bool !b)))
    (h : AL P F ops K rest (σ.st dt (.c (.lit undef)) σ.hp)) : AL P F ops K (⟨dt, op, ty, pos, aft, some (g, b)⟩ :: rest) σ := by
  refine ⟨fun M a w hr Q hQ => ?_⟩
  refine wpList_step fun K' hK' => ?_
  rw [if_neg (by cases b <;> simp [Region.wanted, yielded_of hr hd hv])]
  exact hK' _ _ (h.out M _ _ (hr.st (Sub.refl _) hr.heap _ (by simp [RA, RT])) Q hQ)
theorem yielded_un {M : Mm} {σ : AS} {a : Act} {w : World} (hr : Rep F M σ a w) {ops : Array Oper} {g : Nat} {d : Tmp} (hd : (ops[g]?).bind (·.dst) = some d) (hv : σ.tmps d = .c (.lit undef)) : yielded ops a.tmps g = none := by
  have h := hr.tmps d
  rw [hv] at h
  simp only [RA, RT] at h
  unfold yielded
  rw [hd]
  simp only [Option.bind_some]
  rw [Array.getD_eq_getD_getElem?] at h
  cases hc : a.tmps[d]? with
  | none => rfl
  | some u => rw [hc] at h; simp [undef] at h; simp [h]
theorem al_un {ops : Array Oper} {K : AS → Prop} {σ : AS} {rest : List Oper} {dt : Option Tmp} {op : Op} {ty : TypeId} {pos : String} {aft : Array Edge} {g : Nat} {b : Bool} (d : Tmp)
    (hd : (ops[g]?).bind (·.dst) = some d) (hv : σ.tmps d = .c (.lit undef))
    (h : AL P F ops K rest (σ.st dt (.c (.lit undef)) σ.hp)) : AL P F ops K (⟨dt, op, ty, pos, aft, some (g, b)⟩ :: rest) σ := by
  refine ⟨fun M a w hr Q hQ => ?_⟩
  refine wpList_step fun K' hK' => ?_
  rw [if_neg (by simp [Region.wanted, yielded_un hr hd hv])]
  exact hK' _ _ (h.out M _ _ (hr.st (Sub.refl _) hr.heap _ (by simp [RA, RT])) Q hQ)
theorem ac_region {id : Nat} {l : List Oper} {Q : Exit → AS → Prop} {σ : AS} (h : AL P F l.toArray (Q .normal) l σ) : AC P F (.region id l.toArray false) Q σ :=
  ⟨fun M a w hr => wp_region_lit (h.out M a w hr _ fun M' σ' _ _ hq hr' => ⟨M', σ', hq, hr'⟩)⟩
theorem AC.mono {c : Code} {Q Q' : Exit → AS → Prop} {σ : AS} (h : AC P F c Q σ) (hq : ∀ e σ', Q e σ' → Q' e σ') : AC P F c Q' σ :=
  ⟨fun M a w hr => wp_mono (h.out M a w hr) fun _ _ _ ⟨M', σ', h1, h2⟩ => ⟨M', σ', hq _ _ h1, h2⟩⟩
theorem ac_skip {Q : Exit → AS → Prop} {σ : AS} (h : Q .normal σ) : AC P F .skip Q σ := ⟨fun M _ _ hr => wp_skip ⟨M, σ, h, hr⟩⟩
theorem ac_ret {Q : Exit → AS → Prop} {σ : AS} (h : Q .ret σ) : AC P F .ret Q σ := ⟨fun M _ _ hr => wp_ret ⟨M, σ, h, hr⟩⟩
theorem ac_exit {id : Nat} {Q : Exit → AS → Prop} {σ : AS} (h : Q (.exit id) σ) : AC P F (.exit id) Q σ := ⟨fun M _ _ hr => wp_exit ⟨M, σ, h, hr⟩⟩
def thenA (next : AS → Prop) (Q : Exit → AS → Prop) (e : Exit) (σ : AS) : Prop :=
  match e with
  | .normal => next σ
  | e => Q e σ
def inBlk (id : Nat) (Q : Exit → AS → Prop) (e : Exit) (σ : AS) : Prop :=
  match e with
  | .exit id' => cond (Nat.beq id' id) (Q .normal σ) (Q (.exit id') σ)
  | e => Q e σ
theorem ac_seq {x y : Code} {Q : Exit → AS → Prop} {σ : AS} (h : AC P F x (thenA (AC P F y Q) Q) σ) : AC P F (.seq x y) Q σ := by
  refine ⟨fun M a w hr => ?_⟩
  refine wp_seq (wp_mono (h.out M a w hr) ?_)
  rintro e a' w' ⟨M', σ', h1, h2⟩
  cases e <;> first | exact h1.out M' a' w' h2 | exact ⟨M', σ', h1, h2⟩
theorem ac_block {id : Nat} {x : Code} {Q : Exit → AS → Prop} {σ : AS} (h : AC P F x (inBlk id Q) σ) : AC P F (.block id x) Q σ := by
  refine ⟨fun M a w hr => ?_⟩
  refine wp_block (wp_mono (h.out M a w hr) ?_)
  rintro e a' w' ⟨M', σ', h1, h2⟩
  cases e with
  | exit id' =>
    simp only [Exit.inBlock]
    by_cases hi : id' = id
    · subst hi
      rw [if_pos rfl]
      simp only [inBlk, Nat.beq_refl, cond_true] at h1
      exact ⟨M', σ', h1, h2⟩
    · have hb : Nat.beq id' id = false := by
        cases hc : Nat.beq id' id with
        | false => rfl
        | true => exact absurd (Nat.eq_of_beq_eq_true hc) hi
      rw [if_neg hi]
      simp only [inBlk, hb, cond_false] at h1
      exact ⟨M', σ', h1, h2⟩
  | _ => exact ⟨M', σ', h1, h2⟩
theorem ac_cond {c : Operand} {x y : Code} {Q : Exit → AS → Prop} {σ : AS} {t : Bool} (hc : σ.ev c = .c (.lit (.bool t))) (ht : t = true → AC P F x Q σ) (hf : t = false → AC P F y Q σ) : AC P F (.cond c x y) Q σ := by
  refine ⟨fun M a w hr => ?_⟩
  have h := hr.ev c
  rw [hc] at h
  simp only [RA, RT] at h
  exact wp_cond_split h (fun e => (ht e).out M a w hr) (fun e => (hf e).out M a w hr)
/-- what is known under σ gives what is known under τ -/
def Wk (F : Frm) (σ τ : AS) : Prop := ∀ (M : Mm) (a : Act) (w : World), Rep F M σ a w → ∃ M', Rep F M' τ a w
theorem Wk.refl (σ : AS) : Wk F σ σ := fun M _ _ h => ⟨M, h⟩
theorem Wk.trans {σ τ υ : AS} (h : Wk F σ τ) (h' : Wk F τ υ) : Wk F σ υ := fun M a w hr => let ⟨M', hr'⟩ := h M a w hr; h' M' a w hr'
theorem ac_wk {c : Code} {Q : Exit → AS → Prop} {σ τ : AS} (h : Wk F σ τ) (hc : AC P F c Q τ) : AC P F c Q σ := ⟨fun M a w hr => let ⟨M', hr'⟩ := h M a w hr; hc.out M' a w hr'⟩
theorem ac_loop {c : Code} {Q : Exit → AS → Prop} {σ : AS} {A : Type} (st : A → AS) (I : A → Prop) (μ : A → Nat) (x₀ : A) (h₀ : I x₀) (hσ : Wk F σ (st x₀))
    (round : ∀ x, I x → AC P F c (thenA (fun σ' => ∃ y, I y ∧ μ y < μ x ∧ Wk F σ' (st y)) Q) (st x)) : AC P F (.loop c) Q σ := by
  refine ⟨fun M a w hr => ?_⟩
  obtain ⟨M₁, hr₁⟩ := hσ M a w hr
  refine wp_loop_ghost (fun n a w => ∃ x M, I x ∧ μ x = n ∧ Rep F M (st x) a w) (μ x₀) ⟨x₀, M₁, h₀, rfl, hr₁⟩ ?_
  rintro n a w ⟨x, M, hx, rfl, hr⟩
  refine wp_mono ((round x hx).out M a w hr) ?_
  rintro e a' w' ⟨M', σ', h1, h2⟩
  cases e with
  | normal =>
    obtain ⟨y, hy, hlt, hw⟩ := h1
    obtain ⟨M'', hr''⟩ := hw M' a' w' h2
    exact ⟨μ y, hlt, y, M'', hy, rfl, hr''⟩
  | _ => exact ⟨M', σ', h1, h2⟩
def memB (i : Nat) : List Nat → Bool
  | [] => false
  | j :: l => cond (Nat.beq i j) true (memB i l)
def lkp (i : Nat) : List (Nat × AV) → Option AV
  | [] => none
  | (j, v) :: l => cond (Nat.beq i j) (some v) (lkp i l)
/-- the slots of W are forgotten, those of l hold these, the blocks are these -/
def AS.at_ (σ : AS) (W : List Nat) (l : List (Nat × AV)) (hp : List Blk) : AS :=
  ⟨fun i => match lkp i l with | some v => v | none => cond (memB i W) .junk (σ.tmps i), hp, σ.N⟩
def Agree (W : List Nat) (σ τ : AS) : Prop := σ.N = τ.N ∧ ∀ i, memB i W = false → σ.tmps i = τ.tmps i
def Has (σ : AS) : List (Nat × AV) → Prop
  | [] => True
  | (d, v) :: l => σ.tmps d = v ∧ Has σ l
theorem Agree.refl (W : List Nat) (σ : AS) : Agree W σ σ := ⟨rfl, fun _ _ => rfl⟩
theorem agree_st {W : List Nat} {σ τ : AS} {d : Tmp} {v : AV} {hp : List Blk} (hd : memB d W = true) (h : Agree W σ τ) : Agree W (σ.st (some d) v hp) τ := by
  refine ⟨h.1, fun i hi => ?_⟩
  have : Nat.beq i d = false := by
    cases hc : Nat.beq i d with
    | false => rfl
    | true =>
      have := Nat.eq_of_beq_eq_true hc
      subst this
      rw [hd] at hi; cases hi
  simp only [AS.st, this, Bool.false_and, cond_false]
  exact h.2 i hi
theorem lkp_mem {i : Nat} {v : AV} : ∀ {l : List (Nat × AV)}, lkp i l = some v → ∃ p ∈ l, p.1 = i ∧ p.2 = v
  | [], h => by simp [lkp] at h
  | (j, u) :: l, h => by
    unfold lkp at h
    cases hc : Nat.beq i j with
    | true =>
      rw [hc] at h
      simp only [cond_true, Option.some.injEq] at h
      exact ⟨(j, u), by simp, (Nat.eq_of_beq_eq_true hc).symm, h⟩
    | false =>
      rw [hc] at h
      obtain ⟨p, h1, h2⟩ := lkp_mem (l := l) h
      exact ⟨p, by simp [h1], h2⟩
theorem agree_at {W W' : List Nat} {σ τ : AS} {l : List (Nat × AV)} {hp : List Blk} (hW : (W'.all fun d => memB d W) = true) (hl : (l.all fun p => memB p.1 W) = true) (h : Agree W σ τ) : Agree W (σ.at_ W' l hp) τ := by
  refine ⟨h.1, fun i hi => ?_⟩
  have h1 : lkp i l = none := by
    cases hc : lkp i l with
    | none => rfl
    | some v =>
      obtain ⟨p, hp, rfl, _⟩ := lkp_mem hc
      have := List.all_eq_true.1 hl p hp
      rw [hi] at this; cases this
  have h2 : memB i W' = false := by
    cases hc : memB i W' with
    | false => rfl
    | true =>
      have hm : ∀ l : List Nat, memB i l = true → i ∈ l := by
        intro l
        induction l with
        | nil => intro h; cases h
        | cons j l ih =>
          intro h
          unfold memB at h
          cases hb : Nat.beq i j with
          | true => have := Nat.eq_of_beq_eq_true hb; subst this; simp
          | false => rw [hb] at h; exact List.mem_cons_of_mem _ (ih h)
      have := List.all_eq_true.1 hW i (hm W' hc)
      rw [hi] at this; cases this
  simp only [AS.at_, h1, h2, cond_false]
  exact h.2 i hi
theorem has_get {σ : AS} {i : Nat} {v : AV} : ∀ {l : List (Nat × AV)}, Has σ l → lkp i l = some v → σ.tmps i = v
  | [], _, h => by simp [lkp] at h
  | (j, u) :: l, hh, h => by
    unfold lkp at h
    cases hc : Nat.beq i j with
    | true =>
      rw [hc] at h
      simp only [cond_true, Option.some.injEq] at h
      rw [Nat.eq_of_beq_eq_true hc, ← h]; exact hh.1
    | false => rw [hc] at h; exact has_get hh.2 h
theorem wk_at {σ τ : AS} {W : List Nat} {l : List (Nat × AV)} {hp : List Blk} (hl : Has σ l) (hp' : σ.hp = hp) (h : Agree W σ τ) : Wk F σ (τ.at_ W l hp) := by
  subst hp'
  intro M a w hr
  refine ⟨M, fun i => ?_, hr.size.trans h.1, hr.defers, hr.heap⟩
  simp only [AS.at_]
  cases hc : lkp i l with
  | some v => rw [← has_get hl hc]; exact hr.tmps i
  | none =>
    cases hw : memB i W with
    | true => simp only [cond_true, RA]
    | false => simp only [cond_false]; rw [← h.2 i hw]; exact hr.tmps i
/-- blocks at the end are let go -/
theorem wk_drop {σ : AS} (k : Nat) : Wk F σ ⟨σ.tmps, σ.hp.take k, σ.N⟩ := by
  intro M a w hr
  have hg : ∀ (i : Nat) (x : Blk), (σ.hp.take k)[i]? = some x → σ.hp[i]? = some x := by
    intro i x hx
    rw [List.getElem?_take] at hx
    split at hx
    · exact hx
    · cases hx
  exact ⟨M, hr.tmps, hr.size, hr.defers, hr.heap.mem, hr.heap.ext, hr.heap.frm, fun i x hx => hr.heap.at_ i x (hg i x hx), fun i j x y b hx hy => hr.heap.sep i j x y b (hg i x hx) (hg j y hy), fun i x b hx => hr.heap.out i x b (hg i x hx)⟩
def AS.init (N : Nat) (args : List AV) : AS := ⟨fun i => cond (Nat.blt i N) (args.getD i (.c (.lit undef))) (.c (.lit undef)), [], N⟩
end
end Go.Proofs.Ythgackidonocpaa
namespace Go.Proofs.Ythgackidonocpaa
open Go.RowKit
inductive TD where
  | other
  | slice (e : TypeId)
  | struct (fs : List (Nat × Nat))
  | int (k : IntKind)
  | bool
  | string
  | array (len : Nat) (e : TypeId)
structure TI where
  size : Nat
  bytes : Nat
  zero : List Value
  d : TD
def TI.agg (i : TI) : Bool := match i.d with | .struct _ => true | .array _ _ => true | _ => false
inductive Tab where
  | nil
  | node (k : Nat) (i : TI) (l r : Tab)
def Tab.look (t : Nat) : Tab → Option TI
  | .nil => none
  | .node k i l r => cond (Nat.beq t k) (some i) (cond (Nat.blt t k) (l.look t) (r.look t))
def veq : Value → Value → Bool
  | .bool a, .bool b => a == b
  | .int k a, .int k' b => k == k' && a == b
  | .string a, .string b => a.size == 0 && b.size == 0
  | .pointer none, .pointer none => true
  | .slice none 0 0, .slice none 0 0 => true
  | .map none, .map none => true
  | .nilFunc, .nilFunc => true
  | .nilIface, .nilIface => true
  | _, _ => false
theorem veq_eq : ∀ {a b : Value}, veq a b = true → a = b
  | .bool a, .bool b, h => by simp [veq] at h; rw [h]
  | .int k a, .int k' b, h => by simp [veq] at h; rw [h.1, h.2]
  | .string a, .string b, h => by
    simp [veq] at h
    rw [h.1, h.2]
  | .pointer none, .pointer none, _ => rfl
  | .slice none 0 0, .slice none 0 0, _ => rfl
  | .map none, .map none, _ => rfl
  | .nilFunc, .nilFunc, _ => rfl
  | .nilIface, .nilIface, _ => rfl
def veqs : List Value → List Value → Bool
  | [], [] => true
  | a :: l, b :: r => veq a b && veqs l r
  | _, _ => false
theorem veqs_eq : ∀ {l r : List Value}, veqs l r = true → l = r
  | [], [], _ => rfl
  | a :: l, b :: r, h => by
    simp only [veqs, Bool.and_eq_true] at h
    rw [veq_eq h.1, veqs_eq h.2]
  | [], _ :: _, h => by cases h
  | _ :: _, [], h => by cases h
def fldsB (P : Program) : List Field → List (Nat × Nat) → Bool
  | [], [] => true
  | f :: l, (o, s) :: r => f.offset == o && (P.info? f.type).map (·.size) == some s && fldsB P l r
  | _, _ => false
def descB (P : Program) : TypeDesc → TD → Bool
  | .slice e, .slice e' => e == e'
  | .struct fs, .struct l => fldsB P fs.toList l
  | .int k, .int k' => k == k'
  | .bool, .bool => true
  | .string, .string => true
  | .array n e, .array n' e' => n == n' && e == e'
  | .pointer _, .other => true
  | .map _ _, .other => true
  | .func _ _ _, .other => true
  | .interface _, .other => true
  | _, _ => false
def entB (P : Program) (t : TypeId) (i : TI) : Bool :=
  (match P.info? t with
   | some inf => inf.size == i.size && inf.bytes == i.bytes && (match inf.zero with | some z => veqs z.cells.toList i.zero && (z.cells.size == i.size) && i.zero.all (·.oneCell') && ((match z with | .agg _ => true | _ => false) == i.agg) | none => false)
   | none => false) && (match P.underlying t with | some d => descB P d i.d | none => false)
def Tab.okB (P : Program) : Tab → Bool
  | .nil => true
  | .node k i l r => entB P k i && l.okB P && r.okB P
def TabOk (P : Program) (L : Tab) : Prop := ∀ t i, L.look t = some i → entB P t i = true
theorem tab_ok {P : Program} : ∀ {L : Tab}, L.okB P = true → TabOk P L
  | .nil, _, t, i, h => by simp [Tab.look] at h
  | .node k j l r, hk, t, i, h => by
    simp only [Tab.okB, Bool.and_eq_true] at hk
    simp only [Tab.look] at h
    cases hc : Nat.beq t k with
    | true =>
      rw [hc] at h
      simp only [cond_true, Option.some.injEq] at h
      rw [Nat.eq_of_beq_eq_true hc, ← h]; exact hk.1.1
    | false =>
      rw [hc] at h
      simp only [cond_false] at h
      cases hb : Nat.blt t k with
      | true => rw [hb] at h; exact tab_ok hk.1.2 t i h
      | false => rw [hb] at h; exact tab_ok hk.2 t i h
section
variable {P : Program} {F : Frm} {L : Tab}
theorem TabOk.info (hL : TabOk P L) {t : TypeId} {i : TI} (h : L.look t = some i) : ∃ inf z, P.info? t = some inf ∧ inf.size = i.size ∧ inf.bytes = i.bytes ∧ inf.zero = some z ∧ z.cells.toList = i.zero ∧ (z.cells.size = i.size ∧ OneAll i.zero) ∧ ((match z with | .agg _ => true | _ => false) = i.agg) := by
  have := hL t i h
  simp only [entB, Bool.and_eq_true] at this
  obtain ⟨h1, _⟩ := this
  split at h1
  · rename_i inf hinf
    simp only [Bool.and_eq_true, beq_iff_eq] at h1
    obtain ⟨⟨h2, h3⟩, h4⟩ := h1
    split at h4
    · rename_i z hz
      simp only [Bool.and_eq_true, beq_iff_eq] at h4
      exact ⟨inf, z, hinf, h2, h3, hz, veqs_eq h4.1.1.1, ⟨h4.1.1.2, fun x hx => List.all_eq_true.1 h4.1.2 x hx⟩, h4.2⟩
    · cases h4
  · cases h1
theorem TabOk.desc (hL : TabOk P L) {t : TypeId} {i : TI} (h : L.look t = some i) : ∃ d, P.underlying t = some d ∧ descB P d i.d = true := by
  have := hL t i h
  simp only [entB, Bool.and_eq_true] at this
  obtain ⟨_, h1⟩ := this
  split at h1
  · exact ⟨_, by assumption, h1⟩
  · cases h1
theorem TabOk.sizeOf (hL : TabOk P L) {t : TypeId} {i : TI} (h : L.look t = some i) (w : World) : (Go.sizeOf t).run P w = .ok i.size w := by
  obtain ⟨inf, _, h1, h2, _⟩ := hL.info h
  simp [Go.sizeOf, typeInfo, h1, h2]
theorem TabOk.zero (hL : TabOk P L) {t : TypeId} {i : TI} (h : L.look t = some i) : ∃ z, (∀ w, (zeroValue t).run P w = .ok z w) ∧ z.cells.toList = i.zero ∧ z.cells.size = i.size ∧ OneAll i.zero := by
  obtain ⟨inf, z, h1, _, _, h3, h4, h5, _⟩ := hL.info h
  exact ⟨z, fun w => by simp [zeroValue, typeInfo, h1, h3], h4, h5⟩
theorem TabOk.isAgg (hL : TabOk P L) {t : TypeId} {i : TI} (h : L.look t = some i) (w : World) : (Go.isAgg t).run P w = .ok i.agg w := by
  obtain ⟨d, h1, h2⟩ := hL.desc h
  simp only [Go.isAgg, Sem.run_bind, run_underlying h1, Result.andThen_ok]
  cases hd : i.d <;> rw [hd] at h2 <;> cases d <;> simp [descB] at h2 <;> simp [TI.agg, hd]
theorem TabOk.slice (hL : TabOk P L) {t e : TypeId} {i : TI} (h : L.look t = some i) (hd : i.d = .slice e) : P.underlying t = some (.slice e) := by
  obtain ⟨d, h1, h2⟩ := hL.desc h
  rw [hd] at h2
  cases d <;> simp [descB] at h2
  rw [h1, h2]
theorem TabOk.string (hL : TabOk P L) {t : TypeId} {i : TI} (h : L.look t = some i) (hd : i.d = .string) : P.underlying t = some .string := by
  obtain ⟨d, h1, h2⟩ := hL.desc h
  rw [hd] at h2
  cases d <;> simp [descB] at h2
  exact h1
theorem TabOk.int (hL : TabOk P L) {t : TypeId} {k : IntKind} {i : TI} (h : L.look t = some i) (hd : i.d = .int k) : P.underlying t = some (.int k) := by
  obtain ⟨d, h1, h2⟩ := hL.desc h
  rw [hd] at h2
  cases d <;> simp [descB] at h2
  rw [h1, h2]
theorem flds_get : ∀ {l : List Field} {r : List (Nat × Nat)} {k o s : Nat}, fldsB P l r = true → r[k]? = some (o, s) → ∃ f, l[k]? = some f ∧ f.offset = o ∧ (P.info? f.type).map (·.size) = some s
  | [], [], _, _, _, _, h => by simp at h
  | f :: l, (o', s') :: r, 0, o, s, hb, h => by
    simp only [fldsB, Bool.and_eq_true, beq_iff_eq] at hb
    simp only [List.getElem?_cons_zero, Option.some.injEq, Prod.mk.injEq] at h
    exact ⟨f, rfl, hb.1.1.trans h.1, hb.1.2.trans (by rw [h.2])⟩
  | f :: l, (o', s') :: r, k + 1, o, s, hb, h => by
    simp only [fldsB, Bool.and_eq_true] at hb
    obtain ⟨g, h1, h2⟩ := flds_get (k := k) hb.2 (by simpa using h)
    exact ⟨g, by simpa using h1, h2⟩
  | [], _ :: _, _, _, _, hb, _ => by cases hb
  | _ :: _, [], _, _, _, hb, _ => by cases hb
theorem TabOk.field (hL : TabOk P L) {t : TypeId} {i : TI} {fs : List (Nat × Nat)} (h : L.look t = some i) (hd : i.d = .struct fs) {k o s : Nat} (hk : fs[k]? = some (o, s)) :
    ∃ fields f, P.underlying t = some (.struct fields) ∧ fields[k]? = some f ∧ f.offset = o ∧ (P.info? f.type).map (·.size) = some s := by
  obtain ⟨d, h1, h2⟩ := hL.desc h
  rw [hd] at h2
  cases d <;> simp [descB] at h2
  rename_i fields
  obtain ⟨f, h3, h4⟩ := flds_get h2 hk
  exact ⟨fields, f, h1, by simpa using h3, h4⟩
def frz (M : Mm) (B : Nat) (w : World) : Mm := fun p =>
  match M p with
  | some v => some v
  | none => if B ≤ p.block then (w.cell? p).bind fun v => if v.oneCell' = true then some v else none else none
theorem frz_sub (M : Mm) (B : Nat) (w : World) : Sub M (frz M B w) := fun p v h => by simp [frz, h]
theorem frz_ok {M : Mm} {w : World} (h : MemOk M w) (B : Nat) : MemOk (frz M B w) w := by
  intro p v hp
  unfold frz at hp
  split at hp
  · rename_i u hu
    obtain rfl : u = v := by injection hp
    exact h p u hu
  · split at hp
    · cases hc : w.cell? p with
      | none => rw [hc] at hp; simp at hp
      | some u =>
        rw [hc] at hp
        simp only [Option.bind_some] at hp
        split at hp
        · injection hp with hp; subst hp; exact ⟨rfl, by assumption⟩
        · cases hp
    · cases hp
theorem frz_ext {M : Mm} (B : Nat) (w : World) : Ext (fr B) M (frz M B w) := by
  refine ⟨frz_sub M B w, fun p v hp => ?_⟩
  unfold frz at hp
  split at hp
  · rename_i u hu; rw [← hp]; exact .inl hu
  · split at hp
    · exact .inr (by assumption)
    · cases hp
theorem frz_new {M : Mm} {B : Nat} {w : World} {p : Addr} {v : Value} (hn : M p = none) (hB : B ≤ p.block) (hc : w.cell? p = some v) (h1 : v.oneCell' = true) : frz M B w p = some v := by
  simp [frz, hn, hB, hc, h1]
mutual
def Rz (hp : List Blk) : AV → T → Prop
  | .c t, t' => t' = t ∨ (t = .lit (.slice none 0 0) ∧ ∃ sz, 0 < sz ∧ t' = .row 0 sz [])
  | .own i v, t' => ∃ e sz n ts, hp[i]? = some (.row v e sz n ts) ∧ t' = .row n sz ts
  | .agg cs, t' => ∃ ts, t' = .agg ts ∧ Rzs hp cs ts
  | .tup cs, t' => ∃ ts, t' = .tup ts ∧ Rzs hp cs ts
  | .fn f cap, t' => ∃ ts, t' = .fn f ts ∧ Rzs hp cap ts
  | .ptr i b off, t' => ∃ ty ts, hp[i]? = some (.box b ty (ts.map .c)) ∧ t' = .pin ts off
  | .eptr _ _ _, _ => False
  | .junk, _ => False
def Rzs (hp : List Blk) : List AV → List T → Prop
  | [], ts => ts = []
  | a :: asq, ts => ∃ t r, ts = t :: r ∧ Rz hp a t ∧ Rzs hp asq r
end
section
variable {hp : List Blk}
theorem rz_c {t : T} : Rz hp (.c t) t := by simp only [Rz]; exact .inl trivial
theorem rz_nil {sz : Nat} (h : Nat.ble 1 sz = true) : Rz hp (.c (.lit (.slice none 0 0))) (.row 0 sz []) := by simp only [Rz]; exact .inr ⟨trivial, sz, Nat.le_of_ble_eq_true h, rfl⟩
theorem rt_nil {M : Mm} {u : Value} {sz : Nat} (h0 : 0 < sz) (h : RT M (.lit (.slice none 0 0)) u) : RT M (.row 0 sz []) u := by
  simp only [RT] at h ⊢
  subst h
  exact ⟨none, 0, [], rfl, Nat.le_refl _, Nat.zero_le _, h0, by simp, fun h => absurd h (by omega), by simp only [RTs]⟩
theorem rz_own {i : Nat} {v : Value} {e : TypeId} {sz n : Nat} {ts : List T} (h : hp[i]? = some (.row v e sz n ts)) : Rz hp (.own i v) (.row n sz ts) := by simp only [Rz]; exact ⟨e, sz, n, ts, h, rfl⟩
theorem rz_agg {cs : List AV} {ts : List T} (h : Rzs hp cs ts) : Rz hp (.agg cs) (.agg ts) := by simp only [Rz]; exact ⟨ts, rfl, h⟩
theorem rz_tup {cs : List AV} {ts : List T} (h : Rzs hp cs ts) : Rz hp (.tup cs) (.tup ts) := by simp only [Rz]; exact ⟨ts, rfl, h⟩
theorem rz_fn {f : Fn} {cs : List AV} {ts : List T} (h : Rzs hp cs ts) : Rz hp (.fn f cs) (.fn f ts) := by simp only [Rz]; exact ⟨ts, rfl, h⟩
theorem rz_ptr {i b off : Nat} {ty : TypeId} {ts : List T} (h : hp[i]? = some (.box b ty (ts.map .c))) : Rz hp (.ptr i b off) (.pin ts off) := by simp only [Rz]; exact ⟨ty, ts, h, rfl⟩
theorem rzs_nil : Rzs hp [] [] := by simp only [Rzs]
theorem rzs_cons {a : AV} {asq : List AV} {t : T} {ts : List T} (h : Rz hp a t) (h' : Rzs hp asq ts) : Rzs hp (a :: asq) (t :: ts) := by simp only [Rzs]; exact ⟨t, ts, rfl, h, h'⟩
end
theorem heap_row {M : Mm} {hp : List Blk} {w : World} (h : HeapOk F M hp w) {B : Nat} (hB : ∀ (i : Nat) x b, hp[i]? = some x → x.blk = some b → B ≤ b) {i : Nat} {v : Value} {e : TypeId} {sz n : Nat} {ts : List T} (hi : hp[i]? = some (.row v e sz n ts)) :
    RT (frz M B w) (.row n sz ts) v := by
  obtain ⟨xs, ho, hx, h1, hsz⟩ := h.at_ i _ hi
  have hs := own_shape ho
  obtain ⟨A, c, rfl, hnc, hcm⟩ := hs
  simp only [RT]
  refine ⟨A, c, xs, rfl, hnc, Nat.le_trans hnc hcm, hsz, ho.1, fun hn => ?_, RTs.mono (frz_sub _ _ _) _ _ hx⟩
  rcases ho.2 with ⟨_, h0⟩ | ⟨g, cap, cur, hv, _, hg, _⟩
  · omega
  · have hA : A = some ⟨g, 0, none⟩ := by injection hv
    subst hA
    refine ⟨_, rfl, fun j x hj => frz_new ((h.out i _ g hi rfl).2 _ (by rw [add_block])) (by rw [add_block]; exact hB i _ g hi rfl) (ho.cells (g := g) rfl j x hj) (h1 x (List.mem_of_getElem? hj))⟩
mutual
theorem rz_sound {M : Mm} {hp : List Blk} {w : World} (h : HeapOk F M hp w) {B : Nat} (hB : ∀ (i : Nat) x b, hp[i]? = some x → x.blk = some b → B ≤ b) : ∀ (av : AV) (t : T) (u : Value), Rz hp av t → RA M av u → RT (frz M B w) t u
  | .c t, t', u, hz, hr => by
    simp only [Rz] at hz
    simp only [RA] at hr
    rcases hz with rfl | ⟨rfl, sz, h0, rfl⟩
    · exact RT.mono (frz_sub _ _ _) _ _ hr
    · exact rt_nil h0 (RT.mono (frz_sub _ _ _) _ _ hr)
  | .own i v, t', u, hz, hr => by
    simp only [Rz] at hz
    obtain ⟨e, sz, n, ts, h1, rfl⟩ := hz
    simp only [RA] at hr
    rw [hr.1]
    exact heap_row h hB h1
  | .agg cs, t', u, hz, hr => by
    simp only [Rz] at hz
    obtain ⟨ts, rfl, h1⟩ := hz
    simp only [RA] at hr
    obtain ⟨xs, rfl, h2⟩ := hr
    simp only [RT]
    exact ⟨xs, rfl, rzs_sound h hB cs ts xs h1 h2⟩
  | .tup cs, t', u, hz, hr => by
    simp only [Rz] at hz
    obtain ⟨ts, rfl, h1⟩ := hz
    simp only [RA] at hr
    obtain ⟨xs, rfl, h2⟩ := hr
    simp only [RT]
    exact ⟨xs, rfl, rzs_sound h hB cs ts xs h1 h2⟩
  | .fn f cap, t', u, hz, hr => by
    simp only [Rz] at hz
    obtain ⟨ts, rfl, h1⟩ := hz
    simp only [RA] at hr
    obtain ⟨xs, rfl, h2⟩ := hr
    simp only [RT]
    exact ⟨xs, rfl, rzs_sound h hB cap ts xs h1 h2⟩
  | .ptr i b off, t', u, hz, hr => by
    simp only [Rz] at hz
    obtain ⟨ty, ts, h1, rfl⟩ := hz
    simp only [RA] at hr
    subst hr
    obtain ⟨xs, hh, hx, hone⟩ := h.at_ i _ h1
    simp only [RT]
    refine ⟨⟨b, 0, none⟩, xs, by unfold Addr.add; split <;> simp_all, fun j x hj => ?_, RTs.mono (frz_sub _ _ _) _ _ hx.toT⟩
    have hadd : (⟨b, 0, none⟩ : Addr).add j = ⟨b, j, none⟩ := by unfold Addr.add; split <;> simp_all
    rw [hadd]
    refine frz_new ((h.out i _ b h1 rfl).2 _ rfl) (hB i _ b h1 rfl) ?_ (hone x (List.mem_of_getElem? hj))
    rw [cell_of_row _ b j _ _ _ hh]
    simpa using hj
  | .eptr _ _ _, _, _, hz, _ => by simp only [Rz] at hz
  | .junk, _, _, hz, _ => by simp only [Rz] at hz
theorem rzs_sound {M : Mm} {hp : List Blk} {w : World} (h : HeapOk F M hp w) {B : Nat} (hB : ∀ (i : Nat) x b, hp[i]? = some x → x.blk = some b → B ≤ b) : ∀ (asq : List AV) (ts : List T) (us : List Value), Rzs hp asq ts → RAs M asq us → RTs (frz M B w) ts us
  | [], ts, us, hz, hr => by
    simp only [Rzs] at hz
    simp only [RAs] at hr
    subst hz; subst hr
    simp only [RTs]
  | a :: asq, ts, us, hz, hr => by
    simp only [Rzs] at hz
    obtain ⟨t, r, rfl, h1, h2⟩ := hz
    simp only [RAs] at hr
    obtain ⟨x, xs, rfl, h3, h4⟩ := hr
    simp only [RTs]
    exact ⟨x, xs, rfl, rz_sound h hB a t x h1 h3, rzs_sound h hB asq r xs h2 h4⟩
end
end
attribute [irreducible] Rz Rzs
end Go.Proofs.Ythgackidonocpaa
namespace Go.Proofs.Ythgackidonocpaa
open Go.RowKit
section
variable {P : Program} {F : Frm} {L : Tab}
def Out1 (L : Tab) (σ : AS) : ResultVar → T → Prop
  | .tmp i, t => Rz σ.hp (σ.tmps i) t
  | .cell a ty, t => ∃ i b off tb cs ti, σ.tmps a = .ptr i b off ∧ σ.hp[i]? = some (.box b tb cs) ∧ L.look ty = some ti ∧
      (match ti.agg with | true => off + ti.size ≤ cs.length ∧ Rz σ.hp (.agg ((cs.drop off).take ti.size)) t | false => ∃ v, cs[off]? = some v ∧ Rz σ.hp v t)
def Outs (L : Tab) (σ : AS) : List ResultVar → List T → Prop
  | [], ts => ts = []
  | r :: rs, ts => ∃ t ts', ts = t :: ts' ∧ Out1 L σ r t ∧ Outs L σ rs ts'
def outT : List T → T
  | [t] => t
  | ts => .tup ts
/-- a function's end -/
structure Fin (L : Tab) (res : List ResultVar) (R : T → Prop) (e : Exit) (σ : AS) : Prop where
  out : (e = .normal ∨ e = .ret) ∧ ∃ ts, Outs L σ res ts ∧ R (outT ts)
theorem box_add (b off j : Nat) : (⟨b, off, none⟩ : Addr).add j = ⟨b, off + j, none⟩ := by unfold Addr.add; split <;> simp_all
/-- loading out of a variable -/
theorem load_box {M : Mm} {hp : List Blk} {w : World} (hL : TabOk P L) (h : HeapOk F M hp w) {i b off : Nat} {tb ty : TypeId} {cs : List AV} {ti : TI} (hi : hp[i]? = some (.box b tb cs)) (ht : L.look ty = some ti) (ha : ti.agg = true) (hl : off + ti.size ≤ cs.length) :
    ∃ u, (loadVar ty ⟨b, off, none⟩).run P w = .ok u w ∧ RA M (.agg ((cs.drop off).take ti.size)) u := by
  obtain ⟨xs, hh, hx, _⟩ := h.at_ i _ hi
  have hlen := hx.len
  refine ⟨.agg ((xs.drop off).take ti.size).toArray, ?_, by simp only [RA]; exact ⟨_, rfl, (hx.drop off).take ti.size⟩⟩
  have hlc : (loadCells ⟨b, off, none⟩ ti.size).run P w = .ok ((xs.drop off).take ti.size).toArray w := by
    have := run_loadCells_list (P := P) w ⟨b, off, none⟩ ((xs.drop off).take ti.size) (fun j v hj => by
      rw [box_add, cell_of_row _ b (off + j) _ _ _ hh]
      rw [List.getElem?_take] at hj
      split at hj
      · rw [List.getElem?_drop] at hj; simpa using hj
      · cases hj)
    rwa [show ((xs.drop off).take ti.size).length = ti.size by simp; omega] at this
  simp only [loadVar, Sem.run_bind, hL.isAgg ht, ha, Result.andThen_ok, if_true, hL.sizeOf ht, hlc, Sem.run_pure]
theorem load_box1 {M : Mm} {hp : List Blk} {w : World} (hL : TabOk P L) (h : HeapOk F M hp w) {i b off : Nat} {tb ty : TypeId} {cs : List AV} {ti : TI} {v : AV} (hi : hp[i]? = some (.box b tb cs)) (ht : L.look ty = some ti) (ha : ti.agg = false) (hv : cs[off]? = some v) :
    ∃ u, (loadVar ty ⟨b, off, none⟩).run P w = .ok u w ∧ RA M v u := by
  obtain ⟨xs, hh, hx, _⟩ := h.at_ i _ hi
  obtain ⟨x, hxo, hr⟩ := hx.get hv
  refine ⟨x, ?_, hr⟩
  have hcell : w.cell? ⟨b, off, none⟩ = some x := by rw [cell_of_row _ b off _ _ _ hh]; simpa using hxo
  simp only [loadVar, Sem.run_bind, hL.isAgg ht, ha, Result.andThen_ok, Bool.false_eq_true, if_false, run_load, hcell]
theorem out1_sound {M : Mm} {σ : AS} {a : Act} {w : World} (hL : TabOk P L) (hr : Rep F M σ a w) {B : Nat} (hB : ∀ (i : Nat) x b, σ.hp[i]? = some x → x.blk = some b → B ≤ b) {r : ResultVar} {t : T} (ho : Out1 L σ r t) :
    ∃ u, ((match r with | .tmp t => pure (a.tmps.getD t undef) | .cell a' t => do loadVar t (← asAddr (a.tmps.getD a' undef))) : Sem Value).run P w = .ok u w ∧ RT (frz M B w) t u := by
  cases r with
  | tmp i => exact ⟨_, rfl, rz_sound hr.heap hB _ _ _ ho (hr.tmps i)⟩
  | cell x ty =>
    obtain ⟨i, b, off, tb, cs, ti, h1, h2, h3, h4⟩ := ho
    have hv := hr.tmps x
    rw [h1] at hv
    simp only [RA] at hv
    simp only [hv, asAddr, Sem.run_bind, Sem.run_pure, Result.andThen_ok]
    cases hag : ti.agg with
    | true =>
      rw [hag] at h4
      obtain ⟨u, hu, hra⟩ := load_box hL hr.heap h2 h3 hag h4.1
      exact ⟨u, hu, rz_sound hr.heap hB _ _ _ h4.2 hra⟩
    | false =>
      rw [hag] at h4
      obtain ⟨v, hv, hz⟩ := h4
      obtain ⟨u, hu, hra⟩ := load_box1 hL hr.heap h2 h3 hag hv
      exact ⟨u, hu, rz_sound hr.heap hB _ _ _ hz hra⟩
theorem outs_sound {M : Mm} {σ : AS} {a : Act} {w : World} (hL : TabOk P L) (hr : Rep F M σ a w) {B : Nat} (hB : ∀ (i : Nat) x b, σ.hp[i]? = some x → x.blk = some b → B ≤ b) : ∀ {rs : List ResultVar} {ts : List T}, Outs L σ rs ts →
    ∃ us, (rs.mapM fun r => ((match r with | .tmp t => pure (a.tmps.getD t undef) | .cell a' t => do loadVar t (← asAddr (a.tmps.getD a' undef))) : Sem Value)).run P w = .ok us w ∧ RTs (frz M B w) ts us
  | [], ts, ho => by
    simp only [Outs] at ho
    subst ho
    exact ⟨[], rfl, by simp only [RTs]⟩
  | r :: rs, ts, ho => by
    simp only [Outs] at ho
    obtain ⟨t, ts', rfl, h1, h2⟩ := ho
    obtain ⟨u, hu, hu'⟩ := out1_sound hL hr hB h1
    obtain ⟨us, hus, hus'⟩ := outs_sound hL hr hB h2
    refine ⟨u :: us, ?_, by simp only [RTs]; exact ⟨u, us, rfl, hu', hus'⟩⟩
    simp only [List.mapM_cons, Sem.run_bind, hu, Result.andThen_ok, hus, Sem.run_pure]
theorem results_sound {M : Mm} {σ : AS} {a : Act} {w : World} (hL : TabOk P L) (hr : Rep F M σ a w) {B : Nat} (hB : ∀ (i : Nat) x b, σ.hp[i]? = some x → x.blk = some b → B ≤ b) {fn : Func} {ts : List T} (ho : Outs L σ fn.results.toList ts) :
    ∃ u, (results fn a.tmps).run P w = .ok u w ∧ RT (frz M B w) (outT ts) u := by
  obtain ⟨us, hus, hr⟩ := outs_sound hL hr hB ho
  have hlen := hr.len
  have hm : (fn.results.mapM fun r => ((match r with | .tmp t => pure (a.tmps.getD t undef) | .cell a' t => do loadVar t (← asAddr (a.tmps.getD a' undef))) : Sem Value)).run P w = .ok us.toArray w := by
    rw [Array.mapM_eq_mapM_toList]
    rw [Sem.run_map, hus]
    rfl
  refine ⟨if h : us.toArray.size = 1 then us.toArray[0] else .tuple us.toArray, ?_, ?_⟩
  · unfold results
    simp only [Sem.run_bind, Sem.run_pure]
    erw [hm]
    rfl
  · match ts, us, hlen, hr with
    | [], [], _, hr => simp only [outT, RT]; exact ⟨[], by simp, hr⟩
    | [t], [u], _, hr =>
      simp only [RTs] at hr
      obtain ⟨x, r, e, h1, _⟩ := hr
      injection e with e _
      subst e
      simpa [outT] using h1
    | t1 :: t2 :: ts, u1 :: u2 :: us, _, hr => simp only [outT, RT]; exact ⟨u1 :: u2 :: us, by simp, hr⟩
/-- a function walked -/
theorem af_of {f : FuncId} {fn : Func} {c : Code} {args : List T} {R : T → Prop} (hL : TabOk P L) (hf : P.funcs[f]? = some fn) (hb : fn.body = some c) (hn : (fn.name == "runtime.NumGoroutine") = false) (hN : args.length ≤ fn.ntmps)
    (h : ∀ F, (∀ b, ¬ F.X b) → AC P F c (Fin L fn.results.toList R) (AS.init fn.ntmps (args.map .c))) : AF P f args R := by
  refine ⟨⟨fn, hf, hn, by rw [hb]; rfl⟩, fun M w vs hM hvs => ?_⟩
  have hlen := hvs.len
  refine calls_of_wp hf hb (wp_mono ((h ⟨w, fun _ => False, M⟩ (fun _ h => h)).out M _ w ⟨?_, ?_, rfl, ?_⟩) ?_)
  · intro i
    have hav := RAs.ofT hvs
    simp only [AS.init]
    by_cases hi : i < args.length
    · have : Nat.blt i fn.ntmps = true := Nat.ble_eq_true_of_le (by omega)
      rw [this, cond_true]
      have h1 : (args.map AV.c)[i]? = some (.c args[i]) := by simp [hi]
      obtain ⟨x, hx, hra⟩ := hav.get h1
      rw [List.getD_eq_getElem?_getD, h1]
      have h2 : i < vs.length := by omega
      have h3 : vs[i] = x := by rw [List.getElem?_eq_getElem h2] at hx; injection hx
      simp [Array.getD_eq_getD_getElem?, Array.getElem?_append, h2, h3]
      exact hra
    · have h1 : (args.map AV.c).getD i (.c (.lit undef)) = .c (.lit undef) := by
        rw [List.getD_eq_getElem?_getD, List.getElem?_eq_none (by simp; omega)]; rfl
      rw [h1]
      have h2 : ¬ i < vs.length := by omega
      have h3 : (vs.toArray ++ Array.replicate (fn.ntmps - vs.toArray.size) undef).getD i undef = undef := by
        simp [Array.getD_eq_getD_getElem?, Array.getElem?_append, h2, Array.getElem?_replicate]
        split <;> rfl
      rw [h3]
      cases Nat.blt i fn.ntmps <;> simp only [cond_true, cond_false, RA, RT]
  · simp [AS.init]; omega
  · exact ⟨hM, Ext.refl _ _, ⟨rfl, rfl, rfl, Nat.le_refl _, fun _ _ _ => rfl⟩, fun i x hx => by simp [AS.init] at hx, fun i j x y b hx => by simp [AS.init] at hx, fun i x b hx => by simp [AS.init] at hx⟩
  · rintro e a' w' ⟨M', σ', ⟨⟨he, ts, ho, hR⟩⟩, hr⟩
    have hB : ∀ (i : Nat) x b, σ'.hp[i]? = some x → x.blk = some b → w.heap.size ≤ b := by
      intro i x b hx hxb
      rcases (hr.heap.out i x b hx hxb).1 with h1 | h1
      · exact h1.elim
      · exact h1
    obtain ⟨u, hu, hRT⟩ := results_sound hL hr hB ho
    have hfin : a'.defers = [] ∧ ∃ v, (results fn a'.tmps).run P w' = .ok v w' ∧ ∃ v' r M', Ending.returned v = .returned v' ∧ R r ∧ Ext (fr w.heap.size) M M' ∧ MemOk M' w' ∧ RT M' r v' ∧ Below w.heap.size w w' :=
      ⟨hr.defers, u, hu, u, outT ts, frz M' w.heap.size w', rfl, hR, (hr.heap.ext.to (fun _ h => h.elim (fun h => h.elim) id)).trans (frz_ext _ _), frz_ok hr.heap.mem _, hRT, ⟨hr.heap.frm.os, hr.heap.frm.tape, hr.heap.frm.output, hr.heap.frm.size, fun k hk => hr.heap.frm.block k hk (fun h => h)⟩⟩
    rcases he with rfl | rfl <;> exact hfin
end
end Go.Proofs.Ythgackidonocpaa
namespace Go.Proofs.Ythgackidonocpaa
open Go.RowKit
def oneA : AV → Bool
  | .c (.lit v) => v.oneCell'
  | .c (.row _ _ _) => true
  | .c (.fn _ _) => true
  | .c (.pin _ _) => true
  | .fn _ _ => true
  | .ptr _ _ _ => true
  | .own _ _ => true
  | .eptr _ _ _ => true
  | _ => false
def allOne : List AV → Bool
  | [] => true
  | a :: l => cond (oneA a) (allOne l) false
def cellsA : AV → List AV
  | .agg cs => cs
  | .c (.agg ts) => ts.map .c
  | v => [v]
theorem one_of {M : Mm} {v : AV} {u : Value} (h : RA M v u) (ho : oneA v = true) : u.oneCell' = true := by
  cases v with
  | c t =>
    simp only [RA] at h
    cases t with
    | lit v => simp only [RT] at h; rw [h]; exact ho
    | row n sz cs => simp only [RT] at h; obtain ⟨A, c, xs, rfl, _⟩ := h; rfl
    | fn f cap => simp only [RT] at h; obtain ⟨xs, rfl, _⟩ := h; rfl
    | pin cs off => simp only [RT] at h; obtain ⟨ad, xs, rfl, _⟩ := h; rfl
    | agg cs => simp [oneA] at ho
    | tup cs => simp [oneA] at ho
  | fn f cap => simp only [RA] at h; obtain ⟨xs, rfl, _⟩ := h; rfl
  | ptr i b off => simp only [RA] at h; rw [h]; rfl
  | own i v => simp only [RA] at h; rw [h.1]; exact h.2
  | eptr i v k => simp only [RA] at h; obtain ⟨ad, n, c, _, rfl⟩ := h; rfl
  | agg cs => simp [oneA] at ho
  | tup cs => simp [oneA] at ho
  | junk => simp [oneA] at ho
theorem ones_of {M : Mm} : ∀ {vs : List AV} {us : List Value}, RAs M vs us → allOne vs = true → OneAll us
  | [], _, h, _ => by simp only [RAs] at h; subst h; intro x hx; simp at hx
  | v :: vs, _, h, ho => by
    simp only [RAs] at h
    obtain ⟨x, r, rfl, h1, h2⟩ := h
    simp only [allOne] at ho
    cases hc : oneA v with
    | false => rw [hc] at ho; cases ho
    | true =>
      rw [hc] at ho
      intro y hy
      rcases List.mem_cons.1 hy with rfl | hy
      · exact one_of h1 hc
      · exact ones_of h2 ho y hy
theorem cells_one {v : Value} (h : v.oneCell' = true) : v.cells = #[v] := by cases v <;> simp [Value.oneCell'] at h <;> rfl
theorem cells_of {M : Mm} {v : AV} {u : Value} (h : RA M v u) (ho : allOne (cellsA v) = true) : RAs M (cellsA v) u.cells.toList ∧ OneAll u.cells.toList := by
  have key : RAs M (cellsA v) u.cells.toList → RAs M (cellsA v) u.cells.toList ∧ OneAll u.cells.toList := fun h => ⟨h, ones_of h ho⟩
  have one : cellsA v = [v] → RAs M (cellsA v) u.cells.toList := by
    intro e
    rw [e] at ho ⊢
    have h1 : oneA v = true := by
      simp only [allOne] at ho
      cases hc : oneA v with
      | false => rw [hc] at ho; cases ho
      | true => rfl
    rw [cells_one (one_of h h1)]
    simp only [RAs]
    exact ⟨u, [], rfl, h, rfl⟩
  refine key ?_
  cases v with
  | c t =>
    cases t with
    | agg ts =>
      simp only [RA, RT] at h
      obtain ⟨xs, rfl, h⟩ := h
      simpa [cellsA, Value.cells] using RAs.ofT h
    | _ => exact one rfl
  | agg cs =>
    simp only [RA] at h
    obtain ⟨xs, rfl, h⟩ := h
    simpa [cellsA, Value.cells] using h
  | _ => exact one rfl
def spl {α : Type} : List α → Nat → List α → List α
  | l, _, [] => l
  | l, k, v :: vs => spl (l.set k v) (k + 1) vs
theorem spl_eq {α : Type} : ∀ (vs l : List α) (k : Nat), k + vs.length ≤ l.length → spl l k vs = l.take k ++ vs ++ l.drop (k + vs.length)
  | [], l, k, _ => by simp [spl]
  | v :: vs, l, k, h => by
    have hk : k < l.length := by simp at h; omega
    rw [spl, spl_eq vs (l.set k v) (k + 1) (by simp at h ⊢; omega)]
    rw [List.take_set, List.drop_set, if_pos (by omega), List.take_succ_eq_append_getElem hk, List.set_append_right _ _ (by simp; omega)]
    simp [Nat.min_eq_left (Nat.le_of_lt hk), Nat.add_assoc, Nat.add_comm 1]
theorem RAs.spl {M : Mm} : ∀ {vs cs : List AV} {us xs : List Value} {k : Nat}, RAs M cs xs → RAs M vs us → RAs M (spl cs k vs) (Go.Proofs.Ythgackidonocpaa.spl xs k us)
  | [], _, _, _, _, h, h' => by simp only [RAs] at h'; subst h'; exact h
  | v :: vs, cs, _, xs, k, h, h' => by
    simp only [RAs] at h'
    obtain ⟨x, r, rfl, h1, h2⟩ := h'
    exact RAs.spl (vs := vs) (cs := cs.set k v) (us := r) (xs := xs.set k x) (k := k + 1) (RAs.set k h h1) h2
theorem spl_one {xs us : List Value} {k : Nat} (h : OneAll xs) (h' : OneAll us) : OneAll (spl xs k us) := by
  induction us generalizing xs k with
  | nil => exact h
  | cons u us ih =>
    refine ih (fun x hx => ?_) (fun x hx => h' x (List.mem_cons_of_mem _ hx))
    rcases List.mem_or_eq_of_mem_set hx with hx | rfl
    · exact h x hx
    · exact h' x (by simp)
theorem spl_len {α : Type} : ∀ (vs l : List α) (k : Nat), (spl l k vs).length = l.length
  | [], l, k => rfl
  | v :: vs, l, k => by rw [spl, spl_len vs]; simp
section
variable {P : Program} {F : Frm} {L : Tab} {d : Option Tmp} {ty : TypeId} {pos : String} {aft : Array Edge} {g : Option (Nat × Bool)} {ρ : Operand → AV} {hp : List Blk} {K : AV → List Blk → Prop}
theorem lo_move {x : Operand} {v : AV} (hv : ρ x = v) (h : K v hp) : LO P F ⟨d, .move x, ty, pos, aft, g⟩ ρ hp K := by
  refine LO.same (v := v) (fun M e w hx _ => ⟨e x, rfl, ?_⟩) h
  rw [← hv]; exact hx x (by first | (simp [Op.operands]; done) | simp [Op.operands, Call.operands])
theorem lo_assign {x : Operand} {v : AV} (hv : ρ x = v) (h : K v hp) : LO P F ⟨d, .assign x, ty, pos, aft, g⟩ ρ hp K := by
  refine LO.same (v := v) (fun M e w hx _ => ⟨e x, rfl, ?_⟩) h
  rw [← hv]; exact hx x (by first | (simp [Op.operands]; done) | simp [Op.operands, Call.operands])
theorem lo_pick_t {c x y : Operand} {v : AV} (hc : ρ c = .c (.lit (.bool true))) (hv : ρ x = v) (h : K v hp) : LO P F ⟨d, .pick c x y, ty, pos, aft, g⟩ ρ hp K := by
  refine LO.same (v := v) (fun M e w hx _ => ⟨e x, ?_, ?_⟩) h
  · have := hx c (by first | (simp [Op.operands]; done) | simp [Op.operands, Call.operands])
    rw [hc] at this
    simp only [RA, RT] at this
    simp [execOp, this, asBool]
  · rw [← hv]; exact hx x (by first | (simp [Op.operands]; done) | simp [Op.operands, Call.operands])
theorem lo_pick_f {c x y : Operand} {v : AV} (hc : ρ c = .c (.lit (.bool false))) (hv : ρ y = v) (h : K v hp) : LO P F ⟨d, .pick c x y, ty, pos, aft, g⟩ ρ hp K := by
  refine LO.same (v := v) (fun M e w hx _ => ⟨e y, ?_, ?_⟩) h
  · have := hx c (by first | (simp [Op.operands]; done) | simp [Op.operands, Call.operands])
    rw [hc] at this
    simp only [RA, RT] at this
    simp [execOp, this, asBool]
  · rw [← hv]; exact hx y (by first | (simp [Op.operands]; done) | simp [Op.operands, Call.operands])
theorem lo_extract {x : Operand} {ts : List T} {k : Nat} {t : T} (hx : ρ x = .c (.tup ts)) (hk : ts[k]? = some t) (h : K (.c t) hp) : LO P F ⟨d, .extract x k, ty, pos, aft, g⟩ ρ hp K := by
  refine ⟨fun M e w he hh => ?_⟩
  have h1 := he x (by first | (simp [Op.operands]; done) | simp [Op.operands, Call.operands])
  rw [hx] at h1
  simp only [RA, RT] at h1
  obtain ⟨xs, hu, hxs⟩ := h1
  obtain ⟨u, hu1, hu2⟩ := hxs.get hk
  have : (execOp e ⟨d, .extract x k, ty, pos, aft, g⟩).run P w = .ok (.value u) w := by
    simp [execOp, hu, Instr.extract, hu1]
  rw [this]
  exact ⟨M, _, hp, h, Ext.refl _ _, hh, by simp only [RA]; exact hu2⟩
theorem lo_extractA {x : Operand} {ts : List AV} {k : Nat} {t : AV} (hx : ρ x = .tup ts) (hk : ts[k]? = some t) (h : K t hp) : LO P F ⟨d, .extract x k, ty, pos, aft, g⟩ ρ hp K := by
  refine ⟨fun M e w he hh => ?_⟩
  have h1 := he x (by first | (simp [Op.operands]; done) | simp [Op.operands, Call.operands])
  rw [hx] at h1
  simp only [RA] at h1
  obtain ⟨xs, hu, hxs⟩ := h1
  obtain ⟨u, hu1, hu2⟩ := hxs.get hk
  have : (execOp e ⟨d, .extract x k, ty, pos, aft, g⟩).run P w = .ok (.value u) w := by
    simp [execOp, hu, Instr.extract, hu1]
  rw [this]
  exact ⟨M, _, hp, h, Ext.refl _ _, hh, hu2⟩
/-- a new block -/
theorem push_box {M : Mm} {w : World} (hh : HeapOk F M hp w) {t : TypeId} {cs : List AV} {xs : List Value} (hx : RAs M cs xs) (h1 : OneAll xs) : HeapOk F M (hp ++ [.box w.heap.size t cs]) (w.alloc (.cells xs.toArray t)) := by
  refine hh.step hp.length rfl rfl rfl (by simp) (fun b hb _ => Below.heap_alloc _ _ _ hb) (Ext.refl _ _) (fun p v h1 h2 => by rw [h2] at h1; cases h1) (fun j hj => ?_) (fun x' hx' => ?_)
  · rcases Nat.lt_or_ge j hp.length with h | h
    · rw [List.getElem?_append_left h]
    · rw [List.getElem?_eq_none (by simp; omega), List.getElem?_eq_none (by omega)]
  · have : x' = .box w.heap.size t cs := by simpa using hx'.symm
    subst this
    refine ⟨⟨xs, heap_alloc_new w _, hx, h1⟩, fun b hb => .inr ?_⟩
    obtain rfl : w.heap.size = b := by simpa [Blk.blk] using hb
    refine ⟨Nat.le_refl _, fun p hp => ?_⟩
    cases hc : M p with
    | none => rfl
    | some v => have := World.block_lt_of_cell? w p (hh.mem p v hc).1; omega
theorem lo_alloc (hL : TabOk P L) {t : TypeId} {ti : TI} (ht : L.look t = some ti) (h : ∀ b, K (.ptr hp.length b 0) (hp ++ [.box b t (ti.zero.map fun v => .c (.lit v))])) : LO P F ⟨d, .alloc t, ty, pos, aft, g⟩ ρ hp K := by
  refine ⟨fun M e w he hh => ?_⟩
  obtain ⟨z, hz, hzc, _, hone⟩ := hL.zero ht
  have : (execOp e ⟨d, .alloc t, ty, pos, aft, g⟩).run P w = .ok (.value (.pointer (some ⟨w.heap.size, 0, none⟩))) (w.alloc (.cells z.cells t)) := by
    simp [execOp, Instr.alloc, hz, newVar, newRow]
  rw [this]
  refine ⟨M, _, _, h w.heap.size, Ext.refl _ _, ?_, (by simp only [RA])⟩
  have hz' : z.cells = ti.zero.toArray := by rw [← hzc]
  rw [hz']
  refine push_box hh ?_ hone
  generalize ti.zero = l
  induction l with
  | nil => simp [RAs]
  | cons v l ih => simp only [List.map_cons, RAs, RA, RT]; exact ⟨v, l, rfl, rfl, ih⟩
theorem lo_box {t : TypeId} {x : Operand} {v : AV} (hv : ρ x = v) (h1 : allOne (cellsA v) = true) (h : ∀ b, K (.ptr hp.length b 0) (hp ++ [.box b t (cellsA v)])) : LO P F ⟨d, .box t x, ty, pos, aft, g⟩ ρ hp K := by
  refine ⟨fun M e w he hh => ?_⟩
  have hx := he x (by first | (simp [Op.operands]; done) | simp [Op.operands, Call.operands])
  rw [hv] at hx
  obtain ⟨hc, ho⟩ := cells_of hx h1
  have : (execOp e ⟨d, .box t x, ty, pos, aft, g⟩).run P w = .ok (.value (.pointer (some ⟨w.heap.size, 0, none⟩))) (w.alloc (.cells (e x).cells t)) := by
    simp [execOp, Instr.box, newVar, newRow]
  rw [this]
  refine ⟨M, _, _, h w.heap.size, Ext.refl _ _, ?_, by simp only [RA]⟩
  have := push_box (t := t) hh hc ho
  simpa using this
theorem lo_load_box (hL : TabOk P L) {t : TypeId} {ti : TI} {x : Operand} {i b off : Nat} {tb : TypeId} {cs : List AV} (hx : ρ x = .ptr i b off) (hi : hp[i]? = some (.box b tb cs)) (ht : L.look t = some ti) (ha : ti.agg = true) (hl : Nat.ble (off + ti.size) cs.length = true) (h : K (.agg ((cs.drop off).take ti.size)) hp) : LO P F ⟨d, .load t x, ty, pos, aft, g⟩ ρ hp K := by
  refine LO.same (fun M e w he hh => ?_) h
  have h1 := he x (by first | (simp [Op.operands]; done) | simp [Op.operands, Call.operands])
  rw [hx] at h1
  simp only [RA] at h1
  obtain ⟨u, hu, hr⟩ := load_box hL hh hi ht ha (Nat.le_of_ble_eq_true hl)
  exact ⟨u, by simp [execOp, Instr.loadAt, h1, Instr.sureAddr, hu], hr⟩
theorem lo_load_box1 (hL : TabOk P L) {t : TypeId} {ti : TI} {x : Operand} {i b off : Nat} {tb : TypeId} {cs : List AV} {v : AV} (hx : ρ x = .ptr i b off) (hi : hp[i]? = some (.box b tb cs)) (ht : L.look t = some ti) (ha : ti.agg = false) (hv : cs[off]? = some v) (h : K v hp) : LO P F ⟨d, .load t x, ty, pos, aft, g⟩ ρ hp K := by
  refine LO.same (fun M e w he hh => ?_) h
  have h1 := he x (by first | (simp [Op.operands]; done) | simp [Op.operands, Call.operands])
  rw [hx] at h1
  simp only [RA] at h1
  obtain ⟨u, hu, hr⟩ := load_box1 hL hh hi ht ha hv
  exact ⟨u, by simp [execOp, Instr.loadAt, h1, Instr.sureAddr, hu], hr⟩
theorem lo_load_pin1 (hL : TabOk P L) {t : TypeId} {ti : TI} {x : Operand} {off : Nat} {cs : List T} {v : T} (hx : ρ x = .c (.pin cs off)) (ht : L.look t = some ti) (ha : ti.agg = false) (hv : cs[off]? = some v) (h : K (.c v) hp) : LO P F ⟨d, .load t x, ty, pos, aft, g⟩ ρ hp K := by
  refine LO.same (fun M e w he hh => ?_) h
  have h1 := he x (by first | (simp [Op.operands]; done) | simp [Op.operands, Call.operands])
  rw [hx] at h1
  simp only [RA, RT] at h1
  obtain ⟨ad, xs, hu, hat, hxs⟩ := h1
  obtain ⟨u, hu1, hu2⟩ := hxs.get hv
  have hcell := (hh.mem _ _ (hat off u hu1)).1
  refine ⟨u, ?_, by simp only [RA]; exact hu2⟩
  simp [execOp, Instr.loadAt, hu, Instr.sureAddr, loadVar, hL.isAgg ht, ha, hcell]
theorem lo_load_pin (hL : TabOk P L) {t : TypeId} {ti : TI} {x : Operand} {off : Nat} {cs ts : List T} (hx : ρ x = .c (.pin cs off)) (ht : L.look t = some ti) (ha : ti.agg = true) (hts : (cs.drop off).take ti.size = ts) (hl : ts.length = ti.size) (h : K (.c (.agg ts)) hp) : LO P F ⟨d, .load t x, ty, pos, aft, g⟩ ρ hp K := by
  refine LO.same (fun M e w he hh => ?_) h
  have h1 := he x (by first | (simp [Op.operands]; done) | simp [Op.operands, Call.operands])
  rw [hx] at h1
  simp only [RA, RT] at h1
  obtain ⟨ad, xs, hu, hat, hxs⟩ := h1
  have hys : RTs M ts ((xs.drop off).take ti.size) := by rw [← hts]; exact (hxs.drop off).take ti.size
  have hlen : ((xs.drop off).take ti.size).length = ti.size := by rw [hys.len, hl]
  have hlc : (loadCells (ad.add off) ti.size).run P w = .ok ((xs.drop off).take ti.size).toArray w := by
    have := run_loadCells_list (P := P) w (ad.add off) ((xs.drop off).take ti.size) (fun j v hj => by
      rw [add_add']
      rw [List.getElem?_take] at hj
      split at hj
      · rw [List.getElem?_drop] at hj
        exact (hh.mem _ _ (hat _ v hj)).1
      · cases hj)
    rwa [hlen] at this
  refine ⟨.agg ((xs.drop off).take ti.size).toArray, ?_, by simp only [RA, RT]; exact ⟨_, rfl, hys⟩⟩
  simp [execOp, Instr.loadAt, hu, Instr.sureAddr, loadVar, hL.isAgg ht, ha, hL.sizeOf ht, hlc]
theorem lo_store (hL : TabOk P L) {t : TypeId} {ti : TI} {x y : Operand} {i b off : Nat} {tb : TypeId} {cs : List AV} {v : AV} (hx : ρ x = .ptr i b off) (hi : hp[i]? = some (.box b tb cs)) (hv : ρ y = v) (ht : L.look t = some ti) (h1 : allOne (cellsA v) = true) (hl : (cellsA v).length = ti.size) (hb : Nat.ble (off + ti.size) cs.length = true)
    (h : K (.c (.lit undef)) (hp.set i (.box b tb (spl cs off (cellsA v))))) : LO P F ⟨d, .store t x y, ty, pos, aft, g⟩ ρ hp K := by
  refine ⟨fun M e w he hh => ?_⟩
  have hax := he x (by first | (simp [Op.operands]; done) | simp [Op.operands, Call.operands])
  rw [hx] at hax
  simp only [RA] at hax
  have hvy := he y (by first | (simp [Op.operands]; done) | simp [Op.operands, Call.operands])
  rw [hv] at hvy
  obtain ⟨hc, ho⟩ := cells_of hvy h1
  obtain ⟨xs, hhp, hxs, hone⟩ := hh.at_ i _ hi
  have hlen := hxs.len
  have hcl := hc.len
  have hble := Nat.le_of_ble_eq_true hb
  have hcs : (e y).cells.size = ti.size := by rw [← hl, ← hcl]; simp
  have hst := run_storeCells_at (P := P) b off tb (e y).cells.toList 0 xs.toArray w hhp (by simp; omega) ho
  have hrun : (execOp e ⟨d, .store t x y, ty, pos, aft, g⟩).run P w = .ok .skip (w.setRow b (spl xs off (e y).cells.toList).toArray) := by
    rw [spl_eq _ _ _ (by simp; omega)]
    simp [execOp, Instr.storeAt, hax, Instr.sureAddr, storeVar, hL.sizeOf ht, hcs] at hst ⊢
    simp [hst]
  rw [hrun]
  refine ⟨M, _, _, h, Ext.refl _ _, ?_, by simp only [RA, RT]⟩
  have hblk := setRow_heap w b xs.toArray (spl xs off (e y).cells.toList).toArray tb _ hhp
  refine hh.step i rfl rfl rfl (by simp [World.setRow]) (fun k hk hne => ?_) (Ext.refl _ _) (fun p v h1 h2 => by rw [h2] at h1; cases h1) (fun j hj => by rw [List.getElem?_set_ne (Ne.symm hj)]) (fun x' hx' => ?_)
  · have : k ≠ b := fun e => hne _ hi (by rw [e]; rfl)
    simp [World.setRow, Array.getElem?_modify, Ne.symm this]
  · have hlt : i < hp.length := (List.getElem?_eq_some_iff.1 hi).1
    rw [List.getElem?_set_self hlt] at hx'
    obtain rfl : Blk.box b tb (spl cs off (cellsA v)) = x' := by injection hx'
    refine ⟨⟨_, hblk, RAs.spl hxs hc, spl_one hone ho⟩, fun b' hb' => .inl ⟨_, hi, hb'⟩⟩
end
end Go.Proofs.Ythgackidonocpaa
namespace Go.Proofs.Ythgackidonocpaa
open Go.RowKit
section
variable {P : Program} {F : Frm} {L : Tab} {d : Option Tmp} {ty : TypeId} {pos : String} {aft : Array Edge} {g : Option (Nat × Bool)} {ρ : Operand → AV} {hp : List Blk} {K : AV → List Blk → Prop}
theorem run_fieldAt (hL : TabOk P L) {s : TypeId} {ti : TI} {fs : List (Nat × Nat)} {k o sz : Nat} (ht : L.look s = some ti) (hd : ti.d = .struct fs) (hk : fs[k]? = some (o, sz)) (h0 : Nat.beq sz 0 = false) (ad : Addr) (w : World) :
    (Instr.fieldAt s (.pointer (some ad)) k).run P w = .ok (.pointer (some (ad.add o))) w := by
  obtain ⟨fields, f, h1, h2, h3, h4⟩ := hL.field ht hd hk
  cases hi : P.info? f.type with
  | none => rw [hi] at h4; simp at h4
  | some inf =>
    rw [hi] at h4
    have h5 : inf.size = sz := by simpa using h4
    have h6 : ¬ sz = 0 := fun e => by rw [e] at h0; cases h0
    simp [Instr.fieldAt, run_underlying h1, h2, Instr.sureAddr, fieldPlace, Go.sizeOf, typeInfo, hi, h5, h6, h3]
theorem lo_fld (hL : TabOk P L) {s : TypeId} {ti : TI} {fs : List (Nat × Nat)} {k o sz : Nat} {x : Operand} {i b off : Nat} (hx : ρ x = .ptr i b off) (ht : L.look s = some ti) (hd : ti.d = .struct fs) (hk : fs[k]? = some (o, sz)) (h0 : Nat.beq sz 0 = false) (h : K (.ptr i b (off + o)) hp) : LO P F ⟨d, .fieldAddr s x k, ty, pos, aft, g⟩ ρ hp K := by
  refine LO.same (fun M e w he hh => ?_) h
  have h1 := he x (by first | (simp [Op.operands]; done) | simp [Op.operands, Call.operands])
  rw [hx] at h1
  simp only [RA] at h1
  exact ⟨_, by simp [execOp, h1, run_fieldAt hL ht hd hk h0]; rfl, by simp only [RA, box_add]⟩
theorem lo_fld_pin (hL : TabOk P L) {s : TypeId} {ti : TI} {fs : List (Nat × Nat)} {k o sz : Nat} {x : Operand} {cs : List T} {off : Nat} (hx : ρ x = .c (.pin cs off)) (ht : L.look s = some ti) (hd : ti.d = .struct fs) (hk : fs[k]? = some (o, sz)) (h0 : Nat.beq sz 0 = false) (h : K (.c (.pin cs (off + o))) hp) : LO P F ⟨d, .fieldAddr s x k, ty, pos, aft, g⟩ ρ hp K := by
  refine LO.same (fun M e w he hh => ?_) h
  have h1 := he x (by first | (simp [Op.operands]; done) | simp [Op.operands, Call.operands])
  rw [hx] at h1
  simp only [RA, RT] at h1
  obtain ⟨ad, xs, hu, hat, hxs⟩ := h1
  refine ⟨_, by simp [execOp, hu, run_fieldAt hL ht hd hk h0]; rfl, ?_⟩
  simp only [RA, RT]
  exact ⟨ad, xs, by rw [add_add'], hat, hxs⟩
theorem lo_fld_e (hL : TabOk P L) {s : TypeId} {ti : TI} {fs : List (Nat × Nat)} {k o sz : Nat} {x : Operand} {i : Nat} {v : Value} {off : Nat} (hx : ρ x = .eptr i v off) (ht : L.look s = some ti) (hd : ti.d = .struct fs) (hk : fs[k]? = some (o, sz)) (h0 : Nat.beq sz 0 = false) (h : K (.eptr i v (off + o)) hp) : LO P F ⟨d, .fieldAddr s x k, ty, pos, aft, g⟩ ρ hp K := by
  refine LO.same (fun M e w he hh => ?_) h
  have h1 := he x (by first | (simp [Op.operands]; done) | simp [Op.operands, Call.operands])
  rw [hx] at h1
  simp only [RA] at h1
  obtain ⟨ad, n, c, hv, hu⟩ := h1
  refine ⟨_, by simp [execOp, hu, run_fieldAt hL ht hd hk h0]; rfl, ?_⟩
  simp only [RA]
  exact ⟨ad, n, c, hv, by rw [add_add']⟩
theorem lo_idx (hL : TabOk P L) {t el : TypeId} {ti te : TI} {x y : Operand} {n sz : Nat} {cs : List T} {k : IntKind} {z : Int} (j : Nat) (hx : ρ x = .c (.row n sz cs)) (hy : ρ y = .c (.lit (.int k z))) (hz : z = (j : Int)) (hj : j < n) (ht : L.look t = some ti) (hd : ti.d = .slice el) (hte : L.look el = some te) (hsz : te.size = sz) (h : K (.c (.pin cs (j * sz))) hp) : LO P F ⟨d, .indexAddr t x y, ty, pos, aft, g⟩ ρ hp K := by
  refine LO.same (fun M e w he hh => ?_) h
  have h1 := he x (by first | (simp [Op.operands]; done) | simp [Op.operands, Call.operands])
  rw [hx] at h1
  simp only [RA, RT] at h1
  obtain ⟨A, c, xs, hu, hn, _, _, _, hA, hxs⟩ := h1
  obtain ⟨ad, rfl, hat⟩ := hA (by omega)
  have h2 := he y (by first | (simp [Op.operands]; done) | simp [Op.operands, Call.operands])
  rw [hy] at h2
  simp only [RA, RT] at h2
  refine ⟨.pointer (some (ad.add (j * sz))), ?_, by simp only [RA, RT]; exact ⟨ad, xs, rfl, hat, hxs⟩⟩
  subst hz
  simp [execOp, Instr.indexAt, hu, h2, asIntOf, run_underlying (hL.slice ht hd), hL.sizeOf hte, hsz, hj]
theorem lo_idx_own (hL : TabOk P L) {t el : TypeId} {ti te : TI} {x y : Operand} {i n sz : Nat} {v : Value} {e' : TypeId} {cs : List T} {k : IntKind} {z : Int} (j : Nat) (hx : ρ x = .own i v) (hi : hp[i]? = some (.row v e' sz n cs)) (hy : ρ y = .c (.lit (.int k z))) (hz : z = (j : Int)) (hj : j < n) (ht : L.look t = some ti) (hd : ti.d = .slice el) (hte : L.look el = some te) (hsz : te.size = sz) (h : K (.eptr i v (j * sz)) hp) : LO P F ⟨d, .indexAddr t x y, ty, pos, aft, g⟩ ρ hp K := by
  refine LO.same (fun M e w he hh => ?_) h
  have h1 := he x (by first | (simp [Op.operands]; done) | simp [Op.operands, Call.operands])
  rw [hx] at h1
  simp only [RA] at h1
  obtain ⟨xs, ho, _⟩ := hh.at_ i _ hi
  obtain ⟨A, c, rfl, _⟩ := own_shape ho
  rcases ho.2 with ⟨_, h0⟩ | ⟨g', cap, cur, hv, _⟩
  · omega
  · have hA : A = some ⟨g', 0, none⟩ := by injection hv
    subst hA
    have h2 := he y (by first | (simp [Op.operands]; done) | simp [Op.operands, Call.operands])
    rw [hy] at h2
    simp only [RA, RT] at h2
    refine ⟨.pointer (some (Addr.add ⟨g', 0, none⟩ (j * sz))), ?_, by simp only [RA]; exact ⟨_, _, _, rfl, rfl⟩⟩
    subst hz
    simp [execOp, Instr.indexAt, h1.1, h2, asIntOf, run_underlying (hL.slice ht hd), hL.sizeOf hte, hsz, hj]
theorem own_load {M : Mm} {w : World} (hh : HeapOk F M hp w) {i n sz : Nat} {ad : Addr} {m c : Nat} {e' : TypeId} {cs : List T} (hi : hp[i]? = some (.row (.slice (some ad) m c) e' sz n cs)) :
    ∃ xs, RTs M cs xs ∧ ∀ j x, xs[j]? = some x → w.cell? (ad.add j) = some x := by
  obtain ⟨xs, ho, hx, _⟩ := hh.at_ i _ hi
  refine ⟨xs, hx, ?_⟩
  rcases ho.2 with ⟨h0, _⟩ | ⟨g', cap, cur, hv, _⟩
  · cases h0
  · have hA : ad = ⟨g', 0, none⟩ := by injection hv with h; injection h
    subst hA
    exact ho.cells (g := g') rfl
theorem lo_load_e1 (hL : TabOk P L) {t : TypeId} {ti : TI} {x : Operand} {i off n sz : Nat} {v : Value} {e' : TypeId} {cs : List T} {u : T} (hx : ρ x = .eptr i v off) (hi : hp[i]? = some (.row v e' sz n cs)) (ht : L.look t = some ti) (ha : ti.agg = false) (hv : cs[off]? = some u) (h : K (.c u) hp) : LO P F ⟨d, .load t x, ty, pos, aft, g⟩ ρ hp K := by
  refine LO.same (fun M e w he hh => ?_) h
  have h1 := he x (by first | (simp [Op.operands]; done) | simp [Op.operands, Call.operands])
  rw [hx] at h1
  simp only [RA] at h1
  obtain ⟨ad, n', c, rfl, hu⟩ := h1
  obtain ⟨xs, hxs, hat⟩ := own_load hh hi
  obtain ⟨u', hu1, hu2⟩ := hxs.get hv
  refine ⟨u', ?_, by simp only [RA]; exact hu2⟩
  simp [execOp, Instr.loadAt, hu, Instr.sureAddr, loadVar, hL.isAgg ht, ha, hat off u' hu1]
theorem lo_load_e (hL : TabOk P L) {t : TypeId} {ti : TI} {x : Operand} {i off n sz : Nat} {v : Value} {e' : TypeId} {cs ts : List T} (hx : ρ x = .eptr i v off) (hi : hp[i]? = some (.row v e' sz n cs)) (ht : L.look t = some ti) (ha : ti.agg = true) (hts : (cs.drop off).take ti.size = ts) (hl : ts.length = ti.size) (h : K (.c (.agg ts)) hp) : LO P F ⟨d, .load t x, ty, pos, aft, g⟩ ρ hp K := by
  refine LO.same (fun M e w he hh => ?_) h
  have h1 := he x (by first | (simp [Op.operands]; done) | simp [Op.operands, Call.operands])
  rw [hx] at h1
  simp only [RA] at h1
  obtain ⟨ad, n', c, rfl, hu⟩ := h1
  obtain ⟨xs, hxs, hat⟩ := own_load hh hi
  have hys : RTs M ts ((xs.drop off).take ti.size) := by rw [← hts]; exact (hxs.drop off).take ti.size
  have hlen : ((xs.drop off).take ti.size).length = ti.size := by rw [hys.len, hl]
  have hlc : (loadCells (ad.add off) ti.size).run P w = .ok ((xs.drop off).take ti.size).toArray w := by
    have := run_loadCells_list (P := P) w (ad.add off) ((xs.drop off).take ti.size) (fun j v hj => by
      rw [add_add']
      rw [List.getElem?_take] at hj
      split at hj
      · rw [List.getElem?_drop] at hj
        exact hat _ v hj
      · cases hj)
    rwa [hlen] at this
  refine ⟨.agg ((xs.drop off).take ti.size).toArray, ?_, by simp only [RA, RT]; exact ⟨_, rfl, hys⟩⟩
  simp [execOp, Instr.loadAt, hu, Instr.sureAddr, loadVar, hL.isAgg ht, ha, hL.sizeOf ht, hlc]
theorem lo_len (hL : TabOk P L) {t el : TypeId} {ti : TI} {x : Operand} {n sz : Nat} {cs : List T} (hx : ρ x = .c (.row n sz cs)) (ht : L.look t = some ti) (hd : ti.d = .slice el) (h : n ≤ 9223372036854775807 → K (.c (.lit (.int .i64 n))) hp) : LO P F ⟨d, .call { callee := .builtin .len, args := #[x], argTypes := #[t] }, ty, pos, aft, g⟩ ρ hp K := by
  refine ⟨fun M e w he hh => ?_⟩
  have h1 := he x (by first | (simp [Op.operands]; done) | simp [Op.operands, Call.operands])
  rw [hx] at h1
  simp only [RA, RT] at h1
  obtain ⟨A, c, xs, hu, _, hn, _⟩ := h1
  have : (execOp e ⟨d, .call { callee := .builtin .len, args := #[x], argTypes := #[t] }, ty, pos, aft, g⟩).run P w = .ok (.value (.int .i64 n)) w := by
    simp [execOp, resolve, invoke, builtin, Builtin.len_, hu, run_underlying (hL.slice ht hd), goInt]
  rw [this]
  exact ⟨M, _, hp, h hn, Ext.refl _ _, hh, by simp only [RA, RT]⟩
theorem lo_len_own (hL : TabOk P L) {t el : TypeId} {ti : TI} {x : Operand} {i n sz : Nat} {v : Value} {e' : TypeId} {cs : List T} (hx : ρ x = .own i v) (hi : hp[i]? = some (.row v e' sz n cs)) (ht : L.look t = some ti) (hd : ti.d = .slice el) (h : n ≤ 9223372036854775807 → K (.c (.lit (.int .i64 n))) hp) : LO P F ⟨d, .call { callee := .builtin .len, args := #[x], argTypes := #[t] }, ty, pos, aft, g⟩ ρ hp K := by
  refine ⟨fun M e w he hh => ?_⟩
  have h1 := he x (by first | (simp [Op.operands]; done) | simp [Op.operands, Call.operands])
  rw [hx] at h1
  simp only [RA] at h1
  obtain ⟨xs, ho, _⟩ := hh.at_ i _ hi
  obtain ⟨A, c, rfl, hnc, hc⟩ := own_shape ho
  have : (execOp e ⟨d, .call { callee := .builtin .len, args := #[x], argTypes := #[t] }, ty, pos, aft, g⟩).run P w = .ok (.value (.int .i64 n)) w := by
    simp [execOp, resolve, invoke, builtin, Builtin.len_, h1.1, run_underlying (hL.slice ht hd), goInt]
  rw [this]
  exact ⟨M, _, hp, h (Nat.le_trans hnc hc), Ext.refl _ _, hh, by simp only [RA, RT]⟩
theorem lo_len_str (hL : TabOk P L) {t : TypeId} {ti : TI} {x : Operand} {s : ByteArray} (hx : ρ x = .c (.lit (.string s))) (ht : L.look t = some ti) (hd : ti.d = .string) (h : K (.c (.lit (.int .i64 s.size))) hp) : LO P F ⟨d, .call { callee := .builtin .len, args := #[x], argTypes := #[t] }, ty, pos, aft, g⟩ ρ hp K := by
  refine LO.same (fun M e w he hh => ?_) h
  have h1 := he x (by first | (simp [Op.operands]; done) | simp [Op.operands, Call.operands])
  rw [hx] at h1
  simp only [RA, RT] at h1
  exact ⟨_, by simp [execOp, resolve, invoke, builtin, Builtin.len_, h1, run_underlying (hL.string ht hd), goInt]; rfl, by simp only [RA, RT]⟩
theorem lo_len_nil (hL : TabOk P L) {t el : TypeId} {ti : TI} {x : Operand} (hx : ρ x = .c (.lit (.slice none 0 0))) (ht : L.look t = some ti) (hd : ti.d = .slice el) (h : K (.c (.lit (.int .i64 0))) hp) : LO P F ⟨d, .call { callee := .builtin .len, args := #[x], argTypes := #[t] }, ty, pos, aft, g⟩ ρ hp K := by
  refine LO.same (fun M e w he hh => ?_) h
  have h1 := he x (by first | (simp [Op.operands]; done) | simp [Op.operands, Call.operands])
  rw [hx] at h1
  simp only [RA, RT] at h1
  exact ⟨_, by simp [execOp, resolve, invoke, builtin, Builtin.len_, h1, run_underlying (hL.slice ht hd), goInt]; rfl, by simp only [RA, RT]⟩
theorem HeapOk.below {M M' : Mm} {w w' : World} (hh : HeapOk F M hp w) (hb : Below w.heap.size w w') (hM : Ext (fr w.heap.size) M M') (hm : MemOk M' w') : HeapOk F M' hp w' :=
  hh.step hp.length hb.os hb.tape hb.output hb.size (fun b hlt _ => hb.block b hlt) hM (fun p v h1 _ => hm p v h1) (fun _ _ => rfl) (fun x' hx' => by rw [List.getElem?_eq_none (Nat.le_refl _)] at hx'; cases hx')
theorem MemOk.below {M : Mm} {w w' : World} (h : MemOk M w) (hb : Below w.heap.size w w') : MemOk M w' := by
  intro p v hp
  obtain ⟨h1, h2⟩ := h p v hp
  exact ⟨(hb.cell (World.block_lt_of_cell? w p h1)).trans h1, h2⟩
mutual
theorem cl_sound {M : Mm} : ∀ (av : AV) (t : T) (u : Value), Rz [] av t → RA M av u → RT M t u
  | .c t, t', u, hz, hr => by
    simp only [Rz] at hz
    simp only [RA] at hr
    rcases hz with rfl | ⟨rfl, sz, h0, rfl⟩
    · exact hr
    · exact rt_nil h0 hr
  | .own i v, t', u, hz, hr => by simp [Rz] at hz
  | .agg cs, t', u, hz, hr => by
    simp only [Rz] at hz
    obtain ⟨ts, rfl, h1⟩ := hz
    simp only [RA] at hr
    obtain ⟨xs, rfl, h2⟩ := hr
    simp only [RT]
    exact ⟨xs, rfl, cls_sound cs ts xs h1 h2⟩
  | .tup cs, t', u, hz, hr => by
    simp only [Rz] at hz
    obtain ⟨ts, rfl, h1⟩ := hz
    simp only [RA] at hr
    obtain ⟨xs, rfl, h2⟩ := hr
    simp only [RT]
    exact ⟨xs, rfl, cls_sound cs ts xs h1 h2⟩
  | .fn f cap, t', u, hz, hr => by
    simp only [Rz] at hz
    obtain ⟨ts, rfl, h1⟩ := hz
    simp only [RA] at hr
    obtain ⟨xs, rfl, h2⟩ := hr
    simp only [RT]
    exact ⟨xs, rfl, cls_sound cap ts xs h1 h2⟩
  | .ptr i b off, t', u, hz, hr => by simp [Rz] at hz
  | .eptr _ _ _, _, _, hz, _ => by simp only [Rz] at hz
  | .junk, _, _, hz, _ => by simp only [Rz] at hz
theorem cls_sound {M : Mm} : ∀ (asq : List AV) (ts : List T) (us : List Value), Rzs [] asq ts → RAs M asq us → RTs M ts us
  | [], ts, us, hz, hr => by
    simp only [Rzs] at hz
    simp only [RAs] at hr
    subst hz; subst hr
    simp only [RTs]
  | a :: asq, ts, us, hz, hr => by
    simp only [Rzs] at hz
    obtain ⟨t, r, rfl, h1, h2⟩ := hz
    simp only [RAs] at hr
    obtain ⟨x, xs, rfl, h3, h4⟩ := hr
    simp only [RTs]
    exact ⟨x, xs, rfl, cl_sound a t x h1 h3, cls_sound asq r xs h2 h4⟩
end
theorem ev_all {M : Mm} {e : Operand → Value} : ∀ xs : List Operand, (∀ x ∈ xs, RA M (ρ x) (e x)) → RAs M (xs.map ρ) (xs.map e)
  | [], _ => by simp [RAs]
  | y :: ys, he => by simp only [List.map_cons, RAs]; exact ⟨_, _, rfl, he y (by simp), ev_all ys fun x hx => he x (by simp [hx])⟩
theorem run_call {f : FuncId} (hf : Enters P f) {e : Operand → Value} {y : Operand} {cs : List Value} (hy : e y = .func (.func f) #[] cs.toArray) (xs : List Operand) (ats : Array TypeId) (w : World) :
    (execOp e ⟨d, .call { callee := .value y, args := xs.toArray, argTypes := ats }, ty, pos, aft, g⟩).run P w = .ok (.enter f (xs.map e ++ cs).toArray) w := by
  obtain ⟨fn, h1, h2, h3⟩ := hf
  simp [execOp, resolve, hy, Deferred.ofValue, invoke, callFunc, h1]
  rw [if_neg (by simpa using h2), if_neg (fun e => by rw [e] at h3; cases h3)]
/-- calling a function -/
theorem lo_call {f : FuncId} {y : Operand} {xs : List Operand} {ats : Array TypeId} {ts : List T} {R : T → Prop} {cap : List AV} (hc : AF P f ts R) (hy : ρ y = .fn (.func f) cap) (hx : Rzs [] (xs.map ρ ++ cap) ts) (h : ∀ r, R r → K (.c r) hp) : LO P F ⟨d, .call { callee := .value y, args := xs.toArray, argTypes := ats }, ty, pos, aft, g⟩ ρ hp K := by
  refine ⟨fun M e w he hh => ?_⟩
  obtain ⟨hf, hcall⟩ := hc
  have h1 := he y (by first | (simp [Op.operands]; done) | simp [Op.operands, Call.operands])
  rw [hy] at h1
  simp only [RA] at h1
  obtain ⟨cs, hu, hcs⟩ := h1
  rw [run_call hf hu]
  have hargs := cls_sound _ _ _ hx ((ev_all xs (fun x hx => he x (by simp [Op.operands, Call.operands, hx]))).app hcs)
  refine (hcall M w _ hh.mem hargs).mono ?_
  rintro en w' ⟨v, r, M', rfl, hR, hext, hm, hrt, hb⟩
  exact ⟨v, rfl, M', _, hp, h r hR, (hext.low hh.frm.size), hh.below hb hext hm, by simp only [RA]; exact hrt⟩
theorem row_rd {M : Mm} {w : World} (hm : MemOk M w) {n sz : Nat} {cs : List T} {u : Value} (h : RT M (.row n sz cs) u) : ∃ A c xs, u = .slice A n c ∧ n ≤ maxLen ∧ Rd w w.heap.size sz A n xs ∧ RTs M cs xs ∧ OneAll xs := by
  simp only [RT] at h
  obtain ⟨A, c, xs, rfl, _, hn, hsz, hl, hA, hx⟩ := h
  refine ⟨A, c, xs, rfl, hn, ⟨hl, fun h0 => ?_⟩, hx, fun x hx => ?_⟩
  · obtain ⟨ad, rfl, hat⟩ := hA h0
    have h0l : 0 < xs.length := by rw [hl]; exact Nat.mul_pos h0 hsz
    have := World.block_lt_of_cell? w _ (hm _ _ (hat 0 _ (List.getElem?_eq_getElem h0l))).1
    rw [add_block] at this
    exact ⟨ad, rfl, this, fun j u hu => (hm _ _ (hat j u hu)).1⟩
  · obtain ⟨j, hj, rfl⟩ := List.getElem_of_mem hx
    have h0 : 0 < n := by
      rcases Nat.eq_zero_or_pos n with h | h
      · subst h; simp at hl; rw [hl] at hj; simp at hj
      · exact h
    obtain ⟨ad, rfl, hat⟩ := hA h0
    exact (hm _ _ (hat j _ (List.getElem?_eq_getElem hj))).2
theorem mem_fresh {M : Mm} {w : World} (hm : MemOk M w) {p : Addr} (hp : w.heap.size ≤ p.block) : M p = none := by
  cases hc : M p with
  | none => rfl
  | some v => have := World.block_lt_of_cell? w p (hm p v hc).1; omega
theorem run_app (hL : TabOk P L) {t el : TypeId} {ti te : TI} (ht : L.look t = some ti) (hd : ti.d = .slice el) (hte : L.look el = some te) {M : Mm} {w : World} (hm : MemOk M w) (hsz : 0 < te.size) {v u : Value} {n m : Nat} {xs : List Value} {ts : List T} (hown : w.ownsRow 0 el te.size v n xs) (hu : RT M (.row m te.size ts) u)
    (h63 : n + m ≤ maxLen) (hbytes : (n + m) * te.bytes ≤ 140737488355328) :
    ∃ v' w' ys, (Builtin.append_ #[t, t] ty #[v, u]).run P w = .ok v' w' ∧ w'.ownsRow 0 el te.size v' (n + m) (xs ++ ys) ∧ RTs M ts ys ∧ OneAll ys ∧ w.grownBy w' v.ownBlock ∧ (v'.ownBlock = v.ownBlock ∨ v'.ownBlock = some w.heap.size) := by
  obtain ⟨inf, z, h1, h2, h3, h4, h5, h6, _⟩ := hL.info hte
  obtain ⟨A, c, ys, rfl, _, hrd, hys, hone⟩ := row_rd hm hu
  obtain ⟨v', w', g1, g2, g3, g4⟩ := run_append_at (P := P) w 0 t ty el inf z te.size te.bytes (hL.slice ht hd) h1 h4 h2 h3 h6.1 hsz v n xs hown w.heap.size A m c ys hrd hone h63 hbytes (Nat.zero_le _)
  exact ⟨v', w', ys, g1, g2, hys, hone, g3, g4⟩
theorem own_one {w : World} {base sz n : Nat} {e : TypeId} {v : Value} {xs : List Value} (h : w.ownsRow base e sz v n xs) : v.oneCell' = true := by
  obtain ⟨A, c, rfl, _⟩ := own_shape h
  rfl
theorem OneAll.app {xs ys : List Value} (h : OneAll xs) (h' : OneAll ys) : OneAll (xs ++ ys) := fun x hx => (List.mem_append.1 hx).elim (h x) (h' x)
theorem exec_append {e : Operand → Value} {x y : Operand} {t : TypeId} (w : World) {v' : Value} {w' : World} (h : (Builtin.append_ #[t, t] ty #[e x, e y]).run P w = .ok v' w') :
    (execOp e ⟨d, .call { callee := .builtin .append, args := #[x, y], argTypes := #[t, t] }, ty, pos, aft, g⟩).run P w = .ok (.value v') w' := by
  simp [execOp, resolve, invoke, builtin, h]
theorem lo_app (hL : TabOk P L) {t el : TypeId} {ti te : TI} {x y : Operand} {i n m sz : Nat} {v : Value} {cs ts : List T} (hx : ρ x = .own i v) (hi : hp[i]? = some (.row v el sz n cs)) (hy : ρ y = .c (.row m sz ts)) (ht : L.look t = some ti) (hd : ti.d = .slice el) (hte : L.look el = some te) (hsz : te.size = sz) (h63 : n + m ≤ maxLen) (hbytes : (n + m) * te.bytes ≤ 140737488355328)
    (h : ∀ v', K (.own i v') (hp.set i (.row v' el sz (n + m) (cs ++ ts)))) : LO P F ⟨d, .call { callee := .builtin .append, args := #[x, y], argTypes := #[t, t] }, ty, pos, aft, g⟩ ρ hp K := by
  subst hsz
  refine ⟨fun M e w he hh => ?_⟩
  have h1 := he x (by first | (simp [Op.operands]; done) | simp [Op.operands, Call.operands])
  rw [hx] at h1
  simp only [RA] at h1
  have h2 := he y (by first | (simp [Op.operands]; done) | simp [Op.operands, Call.operands])
  rw [hy] at h2
  simp only [RA] at h2
  obtain ⟨xs, ho, hxs, hone, hsz⟩ := hh.at_ i _ hi
  obtain ⟨v', w', ys, g1, g2, g3, g4, g5, g6⟩ := run_app (ty := ty) hL ht hd hte hh.mem hsz ho h2 h63 hbytes
  rw [← h1.1] at g1
  rw [exec_append w g1]
  refine ⟨M, _, _, h v', Ext.refl _ _, ?_, by simp only [RA]; exact ⟨trivial, own_one g2⟩⟩
  refine hh.step i g5.os g5.tape g5.output g5.size (fun k hk hne => g5.block k hk (fun e => hne _ hi e.symm)) (Ext.refl _ _) (fun p v h1 h2 => by rw [h2] at h1; cases h1) (fun j hj => by rw [List.getElem?_set_ne (Ne.symm hj)]) (fun x' hx' => ?_)
  have hlt : i < hp.length := (List.getElem?_eq_some_iff.1 hi).1
  rw [List.getElem?_set_self hlt] at hx'
  obtain rfl : Blk.row v' el te.size (n + m) (cs ++ ts) = x' := by injection hx'
  refine ⟨⟨_, g2, hxs.app g3, hone.app g4, hsz⟩, fun b hb => ?_⟩
  rcases g6 with g6 | g6
  · exact .inl ⟨_, hi, by simpa [Blk.blk, g6] using hb⟩
  · obtain rfl : w.heap.size = b := by simpa [Blk.blk, g6] using hb
    exact .inr ⟨Nat.le_refl _, fun p hp => mem_fresh hh.mem (by omega)⟩
theorem push_row {M M' : Mm} {w w' : World} (hh : HeapOk F M hp w) (hos : w'.os = w.os) (htape : w'.tape = w.tape) (hout : w'.output = w.output) (hsz : w.heap.size ≤ w'.heap.size) (hblk : ∀ b, b < w.heap.size → w'.heap[b]? = w.heap[b]?)
    (hM : Ext (fr w.heap.size) M M') (hnew : ∀ p v, M' p = some v → M p = none → w'.cell? p = some v ∧ v.oneCell' = true) {x : Blk} (hx : BlkOk M' w' x) (hxb : ∀ b, x.blk = some b → w.heap.size ≤ b ∧ ∀ p : Addr, p.block = b → M' p = none) : HeapOk F M' (hp ++ [x]) w' := by
  refine hh.step hp.length hos htape hout hsz (fun b hb _ => hblk b hb) hM hnew (fun j hj => ?_) (fun x' hx' => ?_)
  · rcases Nat.lt_or_ge j hp.length with h | h
    · rw [List.getElem?_append_left h]
    · rw [List.getElem?_eq_none (by simp; omega), List.getElem?_eq_none (by omega)]
  · have : x' = x := by simpa using hx'.symm
    subst this
    exact ⟨hx, fun b hb => .inr (hxb b hb)⟩
end
end Go.Proofs.Ythgackidonocpaa
namespace Go.Proofs.Ythgackidonocpaa
open Go.RowKit
theorem str_toList (s : ByteArray) : s.toList = s.data.toList := ByteArray.toList_eq s
theorem str_eq {a b : ByteArray} : (a.toList == b.toList) = decide (a = b) := by
  by_cases h : a = b
  · subst h; simp
  · have : ¬ a.toList = b.toList := fun e => h (ByteArray.ext (Array.toList_inj.1 (by rwa [str_toList, str_toList] at e)))
    simp [h, this]
section
variable {P : Program} {F : Frm} {L : Tab} {d : Option Tmp} {ty : TypeId} {pos : String} {aft : Array Edge} {g : Option (Nat × Bool)} {ρ : Operand → AV} {hp : List Blk} {K : AV → List Blk → Prop}
/-- an operation on two literals -/
theorem lo_bin {op : BinOp} {t t' : TypeId} {x y : Operand} {a b v : Value} (hx : ρ x = .c (.lit a)) (hy : ρ y = .c (.lit b)) (hg : ∀ w, (eqGuard op t x y a b).run P w = .ok () w) (hr : ∀ w, (binOp op t a b).run P w = .ok v w) (h : K (.c (.lit v)) hp) : LO P F ⟨d, .binOp op t x y t', ty, pos, aft, g⟩ ρ hp K := by
  refine LO.same (fun M e w he hh => ?_) h
  have h1 := he x (by first | (simp [Op.operands]; done) | simp [Op.operands, Call.operands])
  rw [hx] at h1
  simp only [RA, RT] at h1
  have h2 := he y (by first | (simp [Op.operands]; done) | simp [Op.operands, Call.operands])
  rw [hy] at h2
  simp only [RA, RT] at h2
  exact ⟨v, by simp [execOp, h1, h2, hg, hr], by simp only [RA, RT]⟩
theorem guard_int {op : BinOp} {t : TypeId} {x y : Operand} {k k' : IntKind} {a b : Int} (w : World) : (eqGuard op t x y (.int k a) (.int k' b)).run P w = .ok () w := by
  unfold eqGuard; simp
theorem guard_str {op : BinOp} {t : TypeId} {x y : Operand} {a b : ByteArray} (w : World) : (eqGuard op t x y (.string a) (.string b)).run P w = .ok () w := by
  unfold eqGuard; simp
variable {t t' : TypeId} {x y : Operand} {k : IntKind} {a b : Int}
theorem lo_lss (hx : ρ x = .c (.lit (.int k a))) (hy : ρ y = .c (.lit (.int k b))) (h : K (.c (.lit (.bool (decide (a < b))))) hp) : LO P F ⟨d, .binOp .lss t x y t', ty, pos, aft, g⟩ ρ hp K :=
  lo_bin hx hy guard_int (fun w => by simp [binOp, Op.intCmp]) h
theorem lo_leq (hx : ρ x = .c (.lit (.int k a))) (hy : ρ y = .c (.lit (.int k b))) (h : K (.c (.lit (.bool (decide (a ≤ b))))) hp) : LO P F ⟨d, .binOp .leq t x y t', ty, pos, aft, g⟩ ρ hp K :=
  lo_bin hx hy guard_int (fun w => by simp [binOp, Op.intCmp]) h
theorem lo_gtr (hx : ρ x = .c (.lit (.int k a))) (hy : ρ y = .c (.lit (.int k b))) (h : K (.c (.lit (.bool (decide (b < a))))) hp) : LO P F ⟨d, .binOp .gtr t x y t', ty, pos, aft, g⟩ ρ hp K :=
  lo_bin hx hy guard_int (fun w => by simp [binOp, Op.intCmp]) h
theorem lo_geq (hx : ρ x = .c (.lit (.int k a))) (hy : ρ y = .c (.lit (.int k b))) (h : K (.c (.lit (.bool (decide (b ≤ a))))) hp) : LO P F ⟨d, .binOp .geq t x y t', ty, pos, aft, g⟩ ρ hp K :=
  lo_bin hx hy guard_int (fun w => by simp [binOp, Op.intCmp]) h
theorem lo_eql (hx : ρ x = .c (.lit (.int k a))) (hy : ρ y = .c (.lit (.int k b))) (h : K (.c (.lit (.bool (decide (a = b))))) hp) : LO P F ⟨d, .binOp .eql t x y t', ty, pos, aft, g⟩ ρ hp K :=
  lo_bin hx hy guard_int (fun w => by simp [binOp, Op.intCmp]; rfl) h
theorem lo_neq (hx : ρ x = .c (.lit (.int k a))) (hy : ρ y = .c (.lit (.int k b))) (h : K (.c (.lit (.bool (!decide (a = b))))) hp) : LO P F ⟨d, .binOp .neq t x y t', ty, pos, aft, g⟩ ρ hp K :=
  lo_bin hx hy guard_int (fun w => by simp [binOp, Op.intCmp]; rfl) h
theorem lo_add (hx : ρ x = .c (.lit (.int k a))) (hy : ρ y = .c (.lit (.int k b))) {r : Int} (hr : k.wrap (a + b) = r) (h : K (.c (.lit (.int k r))) hp) : LO P F ⟨d, .binOp .add t x y t', ty, pos, aft, g⟩ ρ hp K :=
  lo_bin hx hy guard_int (fun w => by simp [binOp, Op.intArith, hr]) h
theorem lo_sub (hx : ρ x = .c (.lit (.int k a))) (hy : ρ y = .c (.lit (.int k b))) {r : Int} (hr : k.wrap (a - b) = r) (h : K (.c (.lit (.int k r))) hp) : LO P F ⟨d, .binOp .sub t x y t', ty, pos, aft, g⟩ ρ hp K :=
  lo_bin hx hy guard_int (fun w => by simp [binOp, Op.intArith, hr]) h
theorem lo_mul (hx : ρ x = .c (.lit (.int k a))) (hy : ρ y = .c (.lit (.int k b))) {r : Int} (hr : k.wrap (a * b) = r) (h : K (.c (.lit (.int k r))) hp) : LO P F ⟨d, .binOp .mul t x y t', ty, pos, aft, g⟩ ρ hp K :=
  lo_bin hx hy guard_int (fun w => by simp [binOp, Op.intArith, hr]) h
theorem lo_quo (hx : ρ x = .c (.lit (.int k a))) (hy : ρ y = .c (.lit (.int k b))) {r : Int} (h0 : ¬ b = 0) (hr : k.wrap (a.tdiv b) = r) (h : K (.c (.lit (.int k r))) hp) : LO P F ⟨d, .binOp .quo t x y t', ty, pos, aft, g⟩ ρ hp K :=
  lo_bin hx hy guard_int (fun w => by simp [binOp, Op.intDiv, h0, hr]) h
theorem lo_rem (hx : ρ x = .c (.lit (.int k a))) (hy : ρ y = .c (.lit (.int k b))) {r : Int} (h0 : ¬ b = 0) (hr : a.tmod b = r) (h : K (.c (.lit (.int k r))) hp) : LO P F ⟨d, .binOp .rem t x y t', ty, pos, aft, g⟩ ρ hp K :=
  lo_bin hx hy guard_int (fun w => by simp [binOp, Op.intDiv, h0, hr]) h
/-- the next number: no bound is passed -/
theorem lo_inc {n : Nat} (hx : ρ x = .c (.lit (.int .i64 n))) (hy : ρ y = .c (.lit (.int .i64 1))) (hb : n < 9223372036854775807) (h : K (.c (.lit (.int .i64 ((n + 1 : Nat) : Int)))) hp) : LO P F ⟨d, .binOp .add t x y t', ty, pos, aft, g⟩ ρ hp K :=
  lo_add hx hy (by rw [IntWalk.i64_in _ (by omega)]; omega) h
variable {s s' : ByteArray}
theorem lo_eqs (hx : ρ x = .c (.lit (.string s))) (hy : ρ y = .c (.lit (.string s'))) (h : K (.c (.lit (.bool (decide (s = s'))))) hp) : LO P F ⟨d, .binOp .eql t x y t', ty, pos, aft, g⟩ ρ hp K :=
  lo_bin hx hy guard_str (fun w => by simp only [binOp, Op.stringOp, str_eq, Sem.run_pure]) h
theorem lo_nes (hx : ρ x = .c (.lit (.string s))) (hy : ρ y = .c (.lit (.string s'))) (h : K (.c (.lit (.bool (!decide (s = s'))))) hp) : LO P F ⟨d, .binOp .neq t x y t', ty, pos, aft, g⟩ ρ hp K :=
  lo_bin hx hy guard_str (fun w => by simp only [binOp, Op.stringOp, str_eq, Sem.run_pure]) h
theorem lo_cat (hx : ρ x = .c (.lit (.string s))) (hy : ρ y = .c (.lit (.string s'))) (hb : s.size + s'.size ≤ 9223372036854775807) (h : K (.c (.lit (.string (s ++ s')))) hp) : LO P F ⟨d, .binOp .add t x y t', ty, pos, aft, g⟩ ρ hp K :=
  lo_bin hx hy guard_str (fun w => by
    have : ¬ ((s.size + s'.size : Nat) : Int) > IntKind.i64.max := by simp [IntKind.max, IntKind.signed, IntKind.bits]; omega
    simp only [binOp, Op.stringOp, if_neg this, Sem.run_pure]) h
def strLt (a b : ByteArray) : Bool := Op.bytesLess a.toList b.toList
theorem lo_lts (hx : ρ x = .c (.lit (.string s))) (hy : ρ y = .c (.lit (.string s'))) (h : K (.c (.lit (.bool (strLt s s')))) hp) : LO P F ⟨d, .binOp .lss t x y t', ty, pos, aft, g⟩ ρ hp K :=
  lo_bin hx hy guard_str (fun w => by simp only [binOp, Op.stringOp, strLt, Sem.run_pure]) h
theorem lo_gts (hx : ρ x = .c (.lit (.string s))) (hy : ρ y = .c (.lit (.string s'))) (h : K (.c (.lit (.bool (!(strLt s s' || decide (s = s')))))) hp) : LO P F ⟨d, .binOp .gtr t x y t', ty, pos, aft, g⟩ ρ hp K :=
  lo_bin hx hy guard_str (fun w => by simp only [binOp, Op.stringOp, strLt, str_eq, Sem.run_pure]) h
theorem lo_les (hx : ρ x = .c (.lit (.string s))) (hy : ρ y = .c (.lit (.string s'))) (h : K (.c (.lit (.bool (strLt s s' || decide (s = s'))))) hp) : LO P F ⟨d, .binOp .leq t x y t', ty, pos, aft, g⟩ ρ hp K :=
  lo_bin hx hy guard_str (fun w => by simp only [binOp, Op.stringOp, strLt, str_eq, Sem.run_pure]) h
theorem lo_ges (hx : ρ x = .c (.lit (.string s))) (hy : ρ y = .c (.lit (.string s'))) (h : K (.c (.lit (.bool (!strLt s s')))) hp) : LO P F ⟨d, .binOp .geq t x y t', ty, pos, aft, g⟩ ρ hp K :=
  lo_bin hx hy guard_str (fun w => by simp only [binOp, Op.stringOp, strLt, Sem.run_pure]) h
theorem lo_not {c : Bool} (hx : ρ x = .c (.lit (.bool c))) (h : K (.c (.lit (.bool !c))) hp) : LO P F ⟨d, .unOp .not t x, ty, pos, aft, g⟩ ρ hp K := by
  refine LO.same (fun M e w he hh => ?_) h
  have h1 := he x (by first | (simp [Op.operands]; done) | simp [Op.operands, Call.operands])
  rw [hx] at h1
  simp only [RA, RT] at h1
  exact ⟨_, by simp [execOp, h1, Op.unary]; rfl, by simp only [RA, RT]⟩
theorem lo_neg (hx : ρ x = .c (.lit (.int k a))) {r : Int} (hr : k.wrap (0 - a) = r) (h : K (.c (.lit (.int k r))) hp) : LO P F ⟨d, .unOp .neg t x, ty, pos, aft, g⟩ ρ hp K := by
  refine LO.same (fun M e w he hh => ?_) h
  have h1 := he x (by first | (simp [Op.operands]; done) | simp [Op.operands, Call.operands])
  rw [hx] at h1
  simp only [RA, RT] at h1
  exact ⟨.int k r, by simp only [Int.zero_sub] at hr; simp [execOp, h1, Op.unary, Op.intArith, hr], by simp only [RA, RT]⟩
theorem lo_conv (hL : TabOk P L) {ti : TI} {u : TypeId} {k' : IntKind} (hx : ρ x = .c (.lit (.int k a))) (ht : L.look t = some ti) (hd : ti.d = .int k') {tu : TI} (hu : L.look u = some tu) {r : Int} (hr : k'.wrap a = r) (h : K (.c (.lit (.int k' r))) hp) : LO P F ⟨d, .convert u t x, ty, pos, aft, g⟩ ρ hp K := by
  refine LO.same (fun M e w he hh => ?_) h
  have h1 := he x (by first | (simp [Op.operands]; done) | simp [Op.operands, Call.operands])
  rw [hx] at h1
  simp only [RA, RT] at h1
  obtain ⟨du, hdu, _⟩ := hL.desc hu
  refine ⟨.int k' r, ?_, by simp only [RA, RT]⟩
  simp only [execOp, h1, convert, Sem.run_bind, run_underlying hdu, run_underlying (hL.int ht hd), Result.andThen_ok]
  cases du <;> simp [Conv.intToInt, hr]
end
end Go.Proofs.Ythgackidonocpaa
namespace Go.Proofs.Ythgackidonocpaa
open Go.RowKit
/-- parts laid into cells -/
def fillA (pl : Nat → Option (Nat × Nat)) (cs : List AV) : List (Nat × AV) → Option (List AV)
  | [] => some cs
  | (i, v) :: rest =>
    match pl i with
    | none => none
    | some (off, size) => cond (Nat.beq (cellsA v).length size && Nat.ble (off + size) cs.length && allOne (cellsA v)) (fillA pl (spl cs off (cellsA v)) rest) none
theorem foldl_spl : ∀ (vs : List Value) (off k : Nat) (cs : Array Value), (vs.zipIdx k).foldl (fun cs (p : Value × Nat) => cs.setIfInBounds (off + p.2) p.1) cs = (spl cs.toList (off + k) vs).toArray
  | [], off, k, cs => by simp [spl]
  | v :: vs, off, k, cs => by
    simp only [List.zipIdx_cons, List.foldl_cons, spl]
    rw [foldl_spl vs off (k + 1)]
    simp [Nat.add_assoc]
theorem fill_sound {M : Mm} {pl pl' : Nat → Option (Nat × Nat)} (hpl : ∀ i p, pl i = some p → pl' i = some p) {ρ : Operand → AV} {e : Operand → Value} : ∀ {parts : List (Nat × Operand)} {cs cs' : List AV} {xs : List Value}, (∀ p ∈ parts, RA M (ρ p.2) (e p.2)) → RAs M cs xs → OneAll xs → fillA pl cs (parts.map fun p => (p.1, ρ p.2)) = some cs' →
    ∃ ys : List Value, Instr.fill pl' xs.toArray (parts.map fun p => (p.1, e p.2)) = some ys.toArray ∧ RAs M cs' ys ∧ OneAll ys ∧ ys.length = xs.length
  | [], cs, cs', xs, _, hx, h1, hf => by
    simp only [List.map_nil, fillA, Option.some.injEq] at hf
    subst hf
    exact ⟨xs, rfl, hx, h1, rfl⟩
  | (i, o) :: parts, cs, cs', xs, he, hx, h1, hf => by
    simp only [List.map_cons, fillA] at hf
    cases hp : pl i with
    | none => rw [hp] at hf; cases hf
    | some p =>
      obtain ⟨off, size⟩ := p
      rw [hp] at hf
      simp only at hf
      cases hc : (Nat.beq (cellsA (ρ o)).length size && Nat.ble (off + size) cs.length && allOne (cellsA (ρ o))) with
      | false => rw [hc] at hf; cases hf
      | true =>
        rw [hc] at hf
        simp only [cond_true] at hf
        simp only [Bool.and_eq_true] at hc
        obtain ⟨⟨ha, hb⟩, ho⟩ := hc
        have ha := Nat.eq_of_beq_eq_true ha
        have hb := Nat.le_of_ble_eq_true hb
        obtain ⟨hce, hone⟩ := cells_of (he (i, o) (by simp)) ho
        have hl1 := hce.len
        have hl2 := hx.len
        obtain ⟨ys, g1, g2, g3, g4⟩ := fill_sound hpl (fun p hp => he p (List.mem_cons_of_mem _ hp)) (RAs.spl (k := off) hx hce) (spl_one h1 hone) hf
        refine ⟨ys, ?_, g2, g3, by rw [g4, spl_len]⟩
        have hsz : (e o).cells.size = size := by rw [← ha, ← hl1]; simp
        simp only [List.map_cons, Instr.fill, hpl i _ hp]
        have hnot : (decide ((e o).cells.size ≠ size) || decide (off + (e o).cells.size > xs.toArray.size)) = false := by simp; omega
        rw [if_neg (by simpa using hnot)]
        have := foldl_spl (e o).cells.toList off 0 xs.toArray
        simp only [Nat.add_zero] at this
        rw [← Array.foldl_toList, Array.toList_zipIdx]
        rw [this]
        exact g1
section
variable {P : Program} {F : Frm} {L : Tab} {d : Option Tmp} {ty : TypeId} {pos : String} {aft : Array Edge} {g : Option (Nat × Bool)} {ρ : Operand → AV} {hp : List Blk} {K : AV → List Blk → Prop}
theorem RAs.lits {M : Mm} : ∀ l : List Value, RAs M (l.map fun v => .c (.lit v)) l
  | [] => by simp [RAs]
  | v :: l => by simp only [List.map_cons, RAs, RA, RT]; exact ⟨v, l, rfl, rfl, RAs.lits l⟩
theorem mapM_sizes (w : World) : ∀ (fields : List Field), (∀ f ∈ fields, ∃ s, (P.info? f.type).map (·.size) = some s) →
    ∃ l : List (Nat × Nat), (fields.mapM fun f => (do pure (f.offset, ← Go.sizeOf f.type) : Sem (Nat × Nat))).run P w = .ok l w ∧ ∀ (k : Nat) (f : Field) (s : Nat), fields[k]? = some f → (P.info? f.type).map (·.size) = some s → l[k]? = some (f.offset, s)
  | [], _ => ⟨[], rfl, fun k f s h => by simp at h⟩
  | f :: fields, h => by
    obtain ⟨l, h1, h2⟩ := mapM_sizes w fields fun f hf => h f (List.mem_cons_of_mem _ hf)
    obtain ⟨s, hs⟩ := h f (by simp)
    cases hi : P.info? f.type with
    | none => rw [hi] at hs; cases hs
    | some inf =>
      refine ⟨(f.offset, inf.size) :: l, ?_, fun k f' s' hk hs' => ?_⟩
      · simp only [List.mapM_cons, Sem.run_bind, Go.sizeOf, typeInfo, run_program, Result.andThen_ok, hi, Sem.run_pure] at h1 ⊢
        rw [h1]
        rfl
      · cases k with
        | zero =>
          obtain rfl : f = f' := by simpa using hk
          rw [hi] at hs'
          simp only [Option.map_some, Option.some.injEq] at hs'
          simp [hs']
        | succ k => exact h2 k f' s' (by simpa using hk) hs'
theorem flds_all : ∀ {l : List Field} {r : List (Nat × Nat)}, fldsB P l r = true → ∀ f ∈ l, ∃ s, (P.info? f.type).map (·.size) = some s
  | [], [], _, f, hf => by simp at hf
  | x :: l, (o, s) :: r, hb, f, hf => by
    simp only [fldsB, Bool.and_eq_true, beq_iff_eq] at hb
    rcases List.mem_cons.1 hf with rfl | hf
    · exact ⟨s, hb.1.2⟩
    · exact flds_all hb.2 f hf
  | [], _ :: _, hb, _, _ => by cases hb
  | _ :: _, [], hb, _, _ => by cases hb
theorem lo_build (hL : TabOk P L) {t : TypeId} {ti : TI} {fs : List (Nat × Nat)} {parts : List (Nat × Operand)} {cs : List AV} (ht : L.look t = some ti) (hd : ti.d = .struct fs) (hf : fillA (fun i => fs[i]?) (ti.zero.map fun v => .c (.lit v)) (parts.map fun p => (p.1, ρ p.2)) = some cs) (h : K (.agg cs) hp) : LO P F ⟨d, .build t parts.toArray, ty, pos, aft, g⟩ ρ hp K := by
  refine LO.same (fun M e w he hh => ?_) h
  obtain ⟨z, hz, hzc, _, hone⟩ := hL.zero ht
  obtain ⟨dd, h1, h2⟩ := hL.desc ht
  rw [hd] at h2
  cases dd <;> simp [descB] at h2
  rename_i fields
  obtain ⟨pl, hpl1, hpl2⟩ := mapM_sizes w fields.toList (flds_all h2)
  obtain ⟨ys, g1, g2, _, _⟩ := fill_sound (pl' := fun i => pl[i]?) (fun i p hp => by
    obtain ⟨o, s⟩ := p
    obtain ⟨f, h3, h4, h5⟩ := flds_get h2 hp
    rw [hpl2 i f s h3 h5, h4]) (fun p hp => he p.2 (by simp only [Op.operands]; exact List.mem_map.2 ⟨p, by simpa using hp, rfl⟩)) (RAs.lits (M := M) ti.zero) hone hf
  refine ⟨.agg ys.toArray, ?_, by simp only [RA]; exact ⟨ys, rfl, g2⟩⟩
  have hz' : z.cells = ti.zero.toArray := by rw [← hzc]
  have hm : (fields.mapM fun f => (do pure (f.offset, ← Go.sizeOf f.type) : Sem (Nat × Nat))).run P w = .ok pl.toArray w := by
    rw [Array.mapM_eq_mapM_toList, Sem.run_map, hpl1]
    rfl
  simp only [execOp, Instr.build, Sem.run_bind, hz, run_underlying h1, Result.andThen_ok]
  rw [hm]
  simp only [Result.andThen_ok, hz', List.getElem?_toArray]
  simp only [List.map_toArray]
  rw [show (fun x : Nat × Operand => match x with | (i, x) => (i, e x)) = (fun p : Nat × Operand => (p.1, e p.2)) from rfl]
  rw [g1]
  rfl
theorem repl_cells (z : Array Value) (n : Nat) (sz : Nat) (hz : z.size = sz) (h0 : 0 < sz) : (Array.range (n * sz)).map (fun x => z[x % z.size]!) = ((List.range (n * sz)).map fun j => z.toList.getD (j % sz) undef).toArray := by
  apply Array.ext'
  simp only [Array.toList_map, Array.toList_range]
  apply List.map_congr_left
  intro j _
  have : j % sz < z.size := by rw [hz]; exact Nat.mod_lt _ h0
  rw [hz, getElem!_pos z _ this]
  simp [List.getD_eq_getElem?_getD, this]
theorem lo_bslice0 (hL : TabOk P L) {t el : TypeId} {ti te : TI} {n : Nat} {parts : List (Nat × Operand)} {cs : List AV} (ht : L.look t = some ti) (hd : ti.d = .slice el) (hte : L.look el = some te) (h0 : Nat.ble 1 te.size = true) (hn : Nat.ble (n * te.size) 16777216 = true)
    (hf : fillA (fun i => some (i * te.size, te.size)) ((List.range (n * te.size)).map fun j => .c (.lit (te.zero.getD (j % te.size) undef))) (parts.map fun p => (p.1, ρ p.2)) = some cs) {M : Mm} {e : Operand → Value} {w : World} (he : ∀ p ∈ parts, RA M (ρ p.2) (e p.2)) :
    ∃ ys : List Value, (execOp e ⟨d, .buildSlice t n parts.toArray, ty, pos, aft, g⟩).run P w = .ok (.value (.slice (some ⟨w.heap.size, 0, none⟩) n n)) (w.alloc (.cells ys.toArray el)) ∧ RAs M cs ys ∧ OneAll ys ∧ ys.length = n * te.size := by
  obtain ⟨z, hz, hzc, hzs, hone⟩ := hL.zero hte
  have h0' := Nat.le_of_ble_eq_true h0
  have hn' := Nat.le_of_ble_eq_true hn
  have hzl : te.zero.length = te.size := by rw [← hzc, ← hzs]; simp
  have hx0 : RAs M ((List.range (n * te.size)).map fun j => AV.c (.lit (te.zero.getD (j % te.size) undef))) ((List.range (n * te.size)).map fun j => te.zero.getD (j % te.size) undef) := by
    have := RAs.lits (M := M) ((List.range (n * te.size)).map fun j => te.zero.getD (j % te.size) undef)
    simpa [List.map_map, Function.comp_def] using this
  have ho0 : OneAll ((List.range (n * te.size)).map fun j => te.zero.getD (j % te.size) undef) := by
    intro x hx
    simp only [List.mem_map, List.mem_range] at hx
    obtain ⟨j, _, rfl⟩ := hx
    have : j % te.size < te.zero.length := by rw [hzl]; exact Nat.mod_lt _ h0'
    rw [List.getD_eq_getElem?_getD, List.getElem?_eq_getElem this]
    exact hone _ (List.getElem_mem _)
  obtain ⟨ys, g1, g2, g3, g4⟩ := fill_sound (pl' := fun i => some (i * te.size, te.size)) (fun i p hp => hp) he hx0 ho0 hf
  refine ⟨ys, ?_, g2, g3, by rw [g4]; simp⟩
  have hcell : (Array.range (n * te.size)).map (fun x => z.cells[x % z.cells.size]!) = ((List.range (n * te.size)).map fun j => te.zero.getD (j % te.size) undef).toArray := by
    rw [repl_cells z.cells n te.size hzs h0', hzc]
  have hbig : ¬ n * te.size > 2 ^ 24 := by omega
  simp only [execOp, Instr.buildSlice, Sem.run_bind, run_underlying (hL.slice ht hd), Result.andThen_ok, hL.sizeOf hte, if_neg hbig, Sem.run_pure, List.map_toArray]
  rw [show (fun x : Nat × Operand => match x with | (i, x) => (i, e x)) = (fun p : Nat × Operand => (p.1, e p.2)) from rfl]
  by_cases hnz : n * te.size = 0
  · have hr0 : Array.range 0 = #[] := rfl
    rw [hnz] at g1
    simp only [List.range_zero, List.map_nil] at g1
    simp [hnz, hr0, g1, newRow]
  · simp only [hnz, if_false, Sem.run_bind, hz, Sem.run_pure, Result.andThen_ok, hcell, g1]
    simp [newRow]
theorem lo_bslice (hL : TabOk P L) {t el : TypeId} {ti te : TI} {n : Nat} {parts : List (Nat × Operand)} {cs : List AV} {ts : List T} (ht : L.look t = some ti) (hd : ti.d = .slice el) (hte : L.look el = some te) (h0 : Nat.ble 1 te.size = true) (hn : Nat.ble (n * te.size) 16777216 = true)
    (hf : fillA (fun i => some (i * te.size, te.size)) ((List.range (n * te.size)).map fun j => .c (.lit (te.zero.getD (j % te.size) undef))) (parts.map fun p => (p.1, ρ p.2)) = some cs) (hz : Rzs [] cs ts) (h : K (.c (.row n te.size ts)) hp) : LO P F ⟨d, .buildSlice t n parts.toArray, ty, pos, aft, g⟩ ρ hp K := by
  refine ⟨fun M e w he hh => ?_⟩
  obtain ⟨ys, hr, hy, hone, hl⟩ := lo_bslice0 (d := d) (ty := ty) (pos := pos) (aft := aft) (g := g) hL ht hd hte h0 hn hf (fun p hp => he p.2 (by simp only [Op.operands]; exact List.mem_map.2 ⟨p, by simpa using hp, rfl⟩)) (w := w)
  rw [hr]
  have hyt := cls_sound _ _ _ hz hy
  have hb : Below w.heap.size w (w.alloc (.cells ys.toArray el)) := (Below.refl _ _).alloc (Nat.le_refl _) _
  have hm0 := hh.mem.below hb
  have hM := frz_ext (M := M) w.heap.size (w.alloc (.cells ys.toArray el))
  refine ⟨frz M w.heap.size (w.alloc (.cells ys.toArray el)), _, hp, h, (hM.low hh.frm.size), hh.below hb hM (frz_ok hm0 _), ?_⟩
  have h0' := Nat.le_of_ble_eq_true h0
  have hn' := Nat.le_of_ble_eq_true hn
  have hnm : n ≤ maxLen := by
    have : n ≤ n * te.size := Nat.le_mul_of_pos_right n h0'
    unfold maxLen; omega
  simp only [RA, RT]
  refine ⟨_, _, ys, rfl, Nat.le_refl _, hnm, h0', hl, fun _ => ⟨_, rfl, fun j x hj => ?_⟩, RTs.mono hM.sub _ _ hyt⟩
  have hadd : (⟨w.heap.size, 0, none⟩ : Addr).add j = ⟨w.heap.size, j, none⟩ := by rw [box_add]; simp
  rw [hadd]
  refine frz_new (mem_fresh hh.mem (Nat.le_refl _)) (Nat.le_refl _) ?_ (hone x (List.mem_of_getElem? hj))
  rw [World.cell?_alloc_new]
  simpa using hj
theorem lo_bslice_own (hL : TabOk P L) {t el : TypeId} {ti te : TI} {n : Nat} {parts : List (Nat × Operand)} {cs : List AV} {ts : List T} (ht : L.look t = some ti) (hd : ti.d = .slice el) (hte : L.look el = some te) (h0 : Nat.ble 1 te.size = true) (hn : Nat.ble (n * te.size) 16777216 = true)
    (hf : fillA (fun i => some (i * te.size, te.size)) ((List.range (n * te.size)).map fun j => .c (.lit (te.zero.getD (j % te.size) undef))) (parts.map fun p => (p.1, ρ p.2)) = some cs) (hz : Rzs [] cs ts) (h : ∀ v, K (.own hp.length v) (hp ++ [.row v el te.size n ts])) : LO P F ⟨d, .buildSlice t n parts.toArray, ty, pos, aft, g⟩ ρ hp K := by
  refine ⟨fun M e w he hh => ?_⟩
  obtain ⟨ys, hr, hy, hone, hl⟩ := lo_bslice0 (d := d) (ty := ty) (pos := pos) (aft := aft) (g := g) hL ht hd hte h0 hn hf (fun p hp => he p.2 (by simp only [Op.operands]; exact List.mem_map.2 ⟨p, by simpa using hp, rfl⟩)) (w := w)
  rw [hr]
  have h0' := Nat.le_of_ble_eq_true h0
  have hn' := Nat.le_of_ble_eq_true hn
  have hnm : n ≤ maxLen := by
    have : n ≤ n * te.size := Nat.le_mul_of_pos_right n h0'
    unfold maxLen; omega
  have hyt := cls_sound _ _ _ hz hy
  have hown : (w.alloc (.cells ys.toArray el)).ownsRow 0 el te.size (.slice (some ⟨w.heap.size, 0, none⟩) n n) n ys :=
    ⟨hl, .inr ⟨w.heap.size, n, ys.toArray, rfl, Nat.zero_le _, heap_alloc_new w _, Nat.le_refl _, hnm, by simpa using hl, by simp [← hl]⟩⟩
  refine ⟨M, _, _, h (.slice (some ⟨w.heap.size, 0, none⟩) n n), Ext.refl _ _, ?_, by simp only [RA]; exact ⟨trivial, rfl⟩⟩
  refine push_row (w' := w.alloc (.cells ys.toArray el)) (x := .row (.slice (some ⟨w.heap.size, 0, none⟩) n n) el te.size n ts) hh rfl rfl rfl (by simp) (fun b hb => Below.heap_alloc _ _ _ hb) (Ext.refl _ _) (fun p v h1 h2 => by rw [h2] at h1; cases h1) ⟨ys, hown, hyt, hone, h0'⟩ (fun b hb => ?_)
  obtain rfl : w.heap.size = b := by simpa [Blk.blk, Value.ownBlock] using hb
  exact ⟨Nat.le_refl _, fun p hp => mem_fresh hh.mem (by omega)⟩
theorem lo_func {f : Fn} {cap : List Operand} (h : K (.fn f (cap.map ρ)) hp) : LO P F ⟨d, .makeFunc f #[] cap.toArray, ty, pos, aft, g⟩ ρ hp K := by
  refine LO.same (fun M e w he hh => ?_) h
  refine ⟨.func f #[] (cap.map e).toArray, by simp [execOp, Instr.makeFunc], ?_⟩
  simp only [RA]
  exact ⟨_, rfl, ev_all cap (fun x hx => he x (by simp [Op.operands, hx]))⟩
end
end Go.Proofs.Ythgackidonocpaa
namespace Go.Proofs.Ythgackidonocpaa
open Go.RowKit
theorem neg_t {b : Bool} (h : b = false) : (!b) = true := by rw [h]; rfl
theorem neg_f {b : Bool} (h : b = true) : (!b) = false := by rw [h]; rfl
def evl {α : Type} : List α → Option (List α)
  | [] => some []
  | a :: l => match evl l with | some r => some (a :: r) | none => none
theorem evl_eq {α : Type} : ∀ {l r : List α}, evl l = some r → r = l
  | [], r, h => by simp only [evl, Option.some.injEq] at h; exact h.symm
  | a :: l, r, h => by
    simp only [evl] at h
    cases hl : evl l with
    | none => rw [hl] at h; cases h
    | some r' =>
      rw [hl] at h
      simp only [Option.some.injEq] at h
      rw [← h, evl_eq hl]
def lenU {α : Type} : List α → Option Nat
  | [] => some 0
  | _ :: l => match lenU l with | some n => some (n + 1) | none => none
theorem lenU_eq {α : Type} : ∀ {l : List α} {n : Nat}, lenU l = some n → n = l.length
  | [], n, h => by simp only [lenU, Option.some.injEq] at h; exact h.symm
  | a :: l, n, h => by
    simp only [lenU] at h
    cases hl : lenU l with
    | none => rw [hl] at h; cases h
    | some m =>
      rw [hl] at h
      simp only [Option.some.injEq] at h
      rw [← h, lenU_eq hl]; rfl
section
variable {P : Program} {F : Frm} {L : Tab} {d : Option Tmp} {ty : TypeId} {pos : String} {aft : Array Edge} {g : Option (Nat × Bool)} {ρ : Operand → AV} {hp : List Blk} {K : AV → List Blk → Prop}
theorem v_alloc (hL : TabOk P L) {t : TypeId} {ti : TI} {cs : List AV} {n : Nat} {hp' : Nat → List Blk} (ht : L.look t = some ti) (hz : evl (ti.zero.map fun v => AV.c (.lit v)) = some cs) (hn : lenU hp = some n) (hf : ∀ b, evl (hp ++ [.box b t cs]) = some (hp' b)) (h : ∀ b, K (.ptr n b 0) (hp' b)) : LO P F ⟨d, .alloc t, ty, pos, aft, g⟩ ρ hp K :=
  lo_alloc hL ht fun b => by rw [← evl_eq hz, ← evl_eq (hf b), ← lenU_eq hn]; exact h b
theorem v_box {t : TypeId} {x : Operand} {v : AV} {cs : List AV} {n : Nat} {hp' : Nat → List Blk} (hv : ρ x = v) (hc : evl (cellsA v) = some cs) (h1 : allOne cs = true) (hn : lenU hp = some n) (hf : ∀ b, evl (hp ++ [.box b t cs]) = some (hp' b)) (h : ∀ b, K (.ptr n b 0) (hp' b)) : LO P F ⟨d, .box t x, ty, pos, aft, g⟩ ρ hp K :=
  lo_box hv (by rw [← evl_eq hc]; exact h1) fun b => by rw [← evl_eq hc, ← evl_eq (hf b), ← lenU_eq hn]; exact h b
theorem v_store (hL : TabOk P L) {t : TypeId} {ti : TI} {x y : Operand} {i b off : Nat} {tb : TypeId} {cs vs cs' : List AV} {v : AV} {hp' : List Blk} (hx : ρ x = .ptr i b off) (hi : hp[i]? = some (.box b tb cs)) (hv : ρ y = v) (ht : L.look t = some ti) (hc : evl (cellsA v) = some vs) (h1 : allOne vs = true) (hl : lenU vs = some ti.size) (hb : Nat.ble (off + ti.size) cs.length = true) (hs : evl (spl cs off vs) = some cs') (hf : evl (hp.set i (.box b tb cs')) = some hp')
    (h : K (.c (.lit undef)) hp') : LO P F ⟨d, .store t x y, ty, pos, aft, g⟩ ρ hp K :=
  lo_store hL hx hi hv ht (by rw [← evl_eq hc]; exact h1) (by rw [← evl_eq hc, ← lenU_eq hl]) hb (by rw [← evl_eq hc, ← evl_eq hs, ← evl_eq hf]; exact h)
theorem v_load_box (hL : TabOk P L) {t : TypeId} {ti : TI} {x : Operand} {i b off : Nat} {tb : TypeId} {cs l : List AV} (hx : ρ x = .ptr i b off) (hi : hp[i]? = some (.box b tb cs)) (ht : L.look t = some ti) (ha : ti.agg = true) (hl : Nat.ble (off + ti.size) cs.length = true) (he : evl ((cs.drop off).take ti.size) = some l) (h : K (.agg l) hp) : LO P F ⟨d, .load t x, ty, pos, aft, g⟩ ρ hp K :=
  lo_load_box hL hx hi ht ha hl (by rw [← evl_eq he]; exact h)
theorem v_app (hL : TabOk P L) {t el : TypeId} {ti te : TI} {x y : Operand} {i n m sz : Nat} {v : Value} {cs ts : List T} {hp' : Value → List Blk} (hx : ρ x = .own i v) (hi : hp[i]? = some (.row v el sz n cs)) (hy : ρ y = .c (.row m sz ts)) (ht : L.look t = some ti) (hd : ti.d = .slice el) (hte : L.look el = some te) (hsz : te.size = sz) (hf : ∀ v', evl (hp.set i (.row v' el sz (n + m) (cs ++ ts))) = some (hp' v')) (h63 : n + m ≤ maxLen) (hbytes : (n + m) * te.bytes ≤ 140737488355328)
    (h : ∀ v', K (.own i v') (hp' v')) : LO P F ⟨d, .call { callee := .builtin .append, args := #[x, y], argTypes := #[t, t] }, ty, pos, aft, g⟩ ρ hp K :=
  lo_app hL hx hi hy ht hd hte hsz h63 hbytes fun v' => by rw [← evl_eq (hf v')]; exact h v'
theorem v_build (hL : TabOk P L) {t : TypeId} {ti : TI} {fs : List (Nat × Nat)} {parts : List (Nat × Operand)} {cs cs' : List AV} (ht : L.look t = some ti) (hd : ti.d = .struct fs) (hf : fillA (fun i => fs[i]?) (ti.zero.map fun v => .c (.lit v)) (parts.map fun p => (p.1, ρ p.2)) = some cs) (he : evl cs = some cs') (h : K (.agg cs') hp) : LO P F ⟨d, .build t parts.toArray, ty, pos, aft, g⟩ ρ hp K :=
  lo_build hL ht hd hf (by rw [← evl_eq he]; exact h)
theorem v_bslice (hL : TabOk P L) {t el : TypeId} {ti te : TI} {n : Nat} {parts : List (Nat × Operand)} {cs cs' : List AV} {ts : List T} (ht : L.look t = some ti) (hd : ti.d = .slice el) (hte : L.look el = some te) (h0 : Nat.ble 1 te.size = true) (hn : Nat.ble (n * te.size) 16777216 = true)
    (hf : fillA (fun i => some (i * te.size, te.size)) ((List.range (n * te.size)).map fun j => .c (.lit (te.zero.getD (j % te.size) undef))) (parts.map fun p => (p.1, ρ p.2)) = some cs) (he : evl cs = some cs') (hz : Rzs [] cs' ts) (h : K (.c (.row n te.size ts)) hp) : LO P F ⟨d, .buildSlice t n parts.toArray, ty, pos, aft, g⟩ ρ hp K :=
  lo_bslice hL ht hd hte h0 hn hf (by rw [← evl_eq he]; exact hz) h
theorem v_bslice_own (hL : TabOk P L) {t el : TypeId} {ti te : TI} {n k : Nat} {parts : List (Nat × Operand)} {cs cs' : List AV} {ts : List T} {hp' : Value → List Blk} (ht : L.look t = some ti) (hd : ti.d = .slice el) (hte : L.look el = some te) (h0 : Nat.ble 1 te.size = true) (hn : Nat.ble (n * te.size) 16777216 = true)
    (hf : fillA (fun i => some (i * te.size, te.size)) ((List.range (n * te.size)).map fun j => .c (.lit (te.zero.getD (j % te.size) undef))) (parts.map fun p => (p.1, ρ p.2)) = some cs) (he : evl cs = some cs') (hz : Rzs [] cs' ts) (hk : lenU hp = some k) (hq : ∀ v, evl (hp ++ [.row v el te.size n ts]) = some (hp' v)) (h : ∀ v, K (.own k v) (hp' v)) : LO P F ⟨d, .buildSlice t n parts.toArray, ty, pos, aft, g⟩ ρ hp K :=
  lo_bslice_own hL ht hd hte h0 hn hf (by rw [← evl_eq he]; exact hz) fun v => by rw [← evl_eq (hq v), ← lenU_eq hk]; exact h v
theorem v_func {f : Fn} {cap : List Operand} {l : List AV} (he : evl (cap.map ρ) = some l) (h : K (.fn f l) hp) : LO P F ⟨d, .makeFunc f #[] cap.toArray, ty, pos, aft, g⟩ ρ hp K :=
  lo_func (by rw [← evl_eq he]; exact h)
/-- calling a function value that came in -/
theorem v_callc {f : FuncId} {y : Operand} {xs : List Operand} {ats : Array TypeId} {ts cap : List T} {R : T → Prop} (hc : AF P f ts R) (hy : ρ y = .c (.fn (.func f) cap)) (hx : Rzs [] (xs.map ρ ++ cap.map .c) ts) (h : ∀ r, R r → K (.c r) hp) : LO P F ⟨d, .call { callee := .value y, args := xs.toArray, argTypes := ats }, ty, pos, aft, g⟩ ρ hp K := by
  refine ⟨fun M e w he hh => ?_⟩
  obtain ⟨hf, hcall⟩ := hc
  have h1 := he y (by first | (simp [Op.operands]; done) | simp [Op.operands, Call.operands])
  rw [hy] at h1
  simp only [RA, RT] at h1
  obtain ⟨cs, hu, hcs⟩ := h1
  rw [run_call hf hu]
  have hargs := cls_sound _ _ _ hx ((ev_all xs (fun x hx => he x (by simp [Op.operands, Call.operands, hx]))).app (RAs.ofT hcs))
  refine (hcall M w _ hh.mem hargs).mono ?_
  rintro en w' ⟨v, r, M', rfl, hR, hext, hm, hrt, hb⟩
  exact ⟨v, rfl, M', _, hp, h r hR, (hext.low hh.frm.size), hh.below hb hext hm, by simp only [RA]; exact hrt⟩
/-- a slot with nil becomes a row of the call's own -/
theorem wk_own {σ : AS} (s : Nat) (e : TypeId) (sz : Nat) (h0 : 0 < sz) {k : Nat} (hs : σ.tmps s = .c (.lit (.slice none 0 0))) (_hn : lenU σ.hp = some k) {hp' : List Blk} (hf : evl (σ.hp ++ [.row (.slice none 0 0) e sz 0 []]) = some hp') (hN : Nat.blt s σ.N = true) : Wk F σ (σ.st (some s) (.own k (.slice none 0 0)) hp') := by
  intro M a w hr
  have hh : HeapOk F M hp' w := by
    rw [evl_eq hf]
    refine push_row hr.heap rfl rfl rfl (Nat.le_refl _) (fun _ _ => rfl) (Ext.refl _ _) (fun p v h1 h2 => by rw [h2] at h1; cases h1) ⟨[], World.ownsRow_nil _ _ _ _, by simp only [RTs], fun x hx => by simp at hx, h0⟩ (fun b hb => by simp [Blk.blk, Value.ownBlock] at hb)
  refine ⟨M, fun i => ?_, hr.size, hr.defers, hh⟩
  simp only [AS.st]
  cases hc : Nat.beq i s with
  | false => simp only [Bool.false_and, cond_false]; exact hr.tmps i
  | true =>
    have := Nat.eq_of_beq_eq_true hc
    subst this
    have h1 := hr.tmps i
    rw [hs] at h1
    simp only [RA, RT] at h1
    rw [hN]
    simp only [Bool.and_self, cond_true, RA]
    exact ⟨h1, rfl⟩
end
def upd (N : Nat) (d : Tmp) (v : AV) (τ : Nat → AV) : Nat → AV := fun i => cond (Nat.beq i d && Nat.blt d N) v (τ i)
def evT (τ : Nat → AV) : Operand → AV
  | .tmp t => τ t
  | .const v => .c (.lit v)
  | .global g => .c (.lit (.pointer (some ⟨g, 0, none⟩)))
  | .func f => .fn (.func f) []
def initT (N : Nat) (args : List AV) : Nat → AV := fun i => cond (Nat.blt i N) (args.getD i (.c (.lit undef))) (.c (.lit undef))
def atT (τ : Nat → AV) (W : List Nat) (l : List (Nat × AV)) : Nat → AV := fun i => match lkp i l with | some v => v | none => cond (memB i W) .junk (τ i)
theorem evT_eq {τ : Nat → AV} {hp : List Blk} {N : Nat} : (AS.mk τ hp N).ev = evT τ := by funext x; cases x <;> rfl
section
variable {P : Program} {F : Frm} {L : Tab} {ops : Array Oper} {K : AS → Prop} {τ : Nat → AV} {hp : List Blk} {N : Nat} {rest : List Oper} {op : Op} {ty : TypeId} {pos : String} {aft : Array Edge} {g : Nat} {b c : Bool} {d t : Tmp}
theorem x_op (h : LO P F ⟨some t, op, ty, pos, aft, none⟩ (evT τ) hp fun v hp' => AL P F ops K rest ⟨upd N t v τ, hp', N⟩) : AL P F ops K (⟨some t, op, ty, pos, aft, none⟩ :: rest) ⟨τ, hp, N⟩ :=
  al_op (by rw [evT_eq]; exact h)
theorem x_opn (h : LO P F ⟨none, op, ty, pos, aft, none⟩ (evT τ) hp fun _ hp' => AL P F ops K rest ⟨τ, hp', N⟩) : AL P F ops K (⟨none, op, ty, pos, aft, none⟩ :: rest) ⟨τ, hp, N⟩ :=
  al_op (by rw [evT_eq]; exact h)
theorem x_yes (hd : (ops[g]?).bind (·.dst) = some d) (hv : τ d = .c (.lit (.bool c))) (hc : c = b)
    (h : LO P F ⟨some t, op, ty, pos, aft, some (g, b)⟩ (evT τ) hp fun v hp' => AL P F ops K rest ⟨upd N t v τ, hp', N⟩) : AL P F ops K (⟨some t, op, ty, pos, aft, some (g, b)⟩ :: rest) ⟨τ, hp, N⟩ := by
  subst hc
  exact al_do d hd hv (by rw [evT_eq]; exact h)
theorem x_yesn (hd : (ops[g]?).bind (·.dst) = some d) (hv : τ d = .c (.lit (.bool c))) (hc : c = b)
    (h : LO P F ⟨none, op, ty, pos, aft, some (g, b)⟩ (evT τ) hp fun _ hp' => AL P F ops K rest ⟨τ, hp', N⟩) : AL P F ops K (⟨none, op, ty, pos, aft, some (g, b)⟩ :: rest) ⟨τ, hp, N⟩ := by
  subst hc
  exact al_do d hd hv (by rw [evT_eq]; exact h)
theorem x_no (hd : (ops[g]?).bind (·.dst) = some d) (hv : τ d = .c (.lit (.bool c))) (hc : c = !b)
    (h : AL P F ops K rest ⟨upd N t (.c (.lit undef)) τ, hp, N⟩) : AL P F ops K (⟨some t, op, ty, pos, aft, some (g, b)⟩ :: rest) ⟨τ, hp, N⟩ := by
  subst hc
  exact al_not d hd hv h
theorem x_non (hd : (ops[g]?).bind (·.dst) = some d) (hv : τ d = .c (.lit (.bool c))) (hc : c = !b)
    (h : AL P F ops K rest ⟨τ, hp, N⟩) : AL P F ops K (⟨none, op, ty, pos, aft, some (g, b)⟩ :: rest) ⟨τ, hp, N⟩ := by
  subst hc
  exact al_not d hd hv h
theorem x_un (hd : (ops[g]?).bind (·.dst) = some d) (hv : τ d = .c (.lit undef))
    (h : AL P F ops K rest ⟨upd N t (.c (.lit undef)) τ, hp, N⟩) : AL P F ops K (⟨some t, op, ty, pos, aft, some (g, b)⟩ :: rest) ⟨τ, hp, N⟩ := al_un d hd hv h
theorem x_unn (hd : (ops[g]?).bind (·.dst) = some d) (hv : τ d = .c (.lit undef))
    (h : AL P F ops K rest ⟨τ, hp, N⟩) : AL P F ops K (⟨none, op, ty, pos, aft, some (g, b)⟩ :: rest) ⟨τ, hp, N⟩ := al_un d hd hv h
end
section
variable {P : Program} {F : Frm} {d : Option Tmp} {ty : TypeId} {pos : String} {aft : Array Edge} {g : Option (Nat × Bool)} {ρ : Operand → AV} {hp : List Blk} {K : AV → List Blk → Prop}
theorem v_pick_t {c x y : Operand} {v : AV} {b : Bool} (hc : ρ c = .c (.lit (.bool b))) (hb : b = true) (hv : ρ x = v) (h : K v hp) : LO P F ⟨d, .pick c x y, ty, pos, aft, g⟩ ρ hp K := by
  subst hb; exact lo_pick_t hc hv h
theorem v_pick_f {c x y : Operand} {v : AV} {b : Bool} (hc : ρ c = .c (.lit (.bool b))) (hb : b = false) (hv : ρ y = v) (h : K v hp) : LO P F ⟨d, .pick c x y, ty, pos, aft, g⟩ ρ hp K := by
  subst hb; exact lo_pick_f hc hv h
end
section
variable {P : Program} {F : Frm} {L : Tab} {τ τ' : Nat → AV} {hp : List Blk} {N : Nat} {Q : Exit → AS → Prop}
theorem x_cond {c : Operand} {x y : Code} {t : Bool} (hc : evT τ c = .c (.lit (.bool t))) (ht : t = true → AC P F x Q ⟨τ, hp, N⟩) (hf : t = false → AC P F y Q ⟨τ, hp, N⟩) : AC P F (.cond c x y) Q ⟨τ, hp, N⟩ := ac_cond (by rw [evT_eq]; exact hc) ht hf
theorem x_t {c : Operand} {x y : Code} {t : Bool} (hc : evT τ c = .c (.lit (.bool t))) (ht : t = true) (h : AC P F x Q ⟨τ, hp, N⟩) : AC P F (.cond c x y) Q ⟨τ, hp, N⟩ := x_cond hc (fun _ => h) (fun h => by rw [ht] at h; cases h)
theorem x_f {c : Operand} {x y : Code} {t : Bool} (hc : evT τ c = .c (.lit (.bool t))) (ht : t = false) (h : AC P F y Q ⟨τ, hp, N⟩) : AC P F (.cond c x y) Q ⟨τ, hp, N⟩ := x_cond hc (fun h => by rw [ht] at h; cases h) (fun _ => h)
/-- outside W the slots are alike -/
def AgT (W : List Nat) (τ τ' : Nat → AV) : Prop := ∀ i, memB i W = false → τ i = τ' i
def HasT (τ : Nat → AV) : List (Nat × AV) → Prop
  | [] => True
  | (d, v) :: l => τ d = v ∧ HasT τ l
theorem ag_refl {W : List Nat} {τ : Nat → AV} : AgT W τ τ := fun _ _ => rfl
theorem ag_upd {W : List Nat} {N : Nat} {d : Tmp} {v : AV} (hd : memB d W = true) (h : AgT W τ τ') : AgT W (upd N d v τ) τ' := by
  have := agree_st (v := v) (hp := []) (σ := ⟨τ, [], N⟩) (τ := ⟨τ', [], N⟩) hd ⟨rfl, h⟩
  exact this.2
theorem ag_at {W W' : List Nat} {l : List (Nat × AV)} (hW : (W'.all fun d => memB d W) = true) (hl : (l.all fun p => memB p.1 W) = true) (h : AgT W τ τ') : AgT W (atT τ W' l) τ' := by
  have := agree_at (hp := []) (σ := ⟨τ, [], 0⟩) (τ := ⟨τ', [], 0⟩) hW hl ⟨rfl, h⟩
  exact this.2
theorem hasT {τ : Nat → AV} {hp : List Blk} {N : Nat} : ∀ {l : List (Nat × AV)}, HasT τ l → Has ⟨τ, hp, N⟩ l
  | [], _ => trivial
  | (_, _) :: _, h => ⟨h.1, hasT h.2⟩
/-- to a loop's head: the slots of l hold these, those of W else are forgotten -/
theorem x_wk {W : List Nat} {l : List (Nat × AV)} {hp' : List Blk} (hl : HasT τ l) (hh : hp = hp') (h : AgT W τ τ') : Wk F ⟨τ, hp, N⟩ ⟨atT τ' W l, hp', N⟩ :=
  wk_at (σ := ⟨τ, hp, N⟩) (τ := ⟨τ', hp, N⟩) (hasT hl) hh ⟨rfl, h⟩
/-- the same, blocks at the end let go -/
theorem x_wkd {W : List Nat} {l : List (Nat × AV)} {hp' : List Blk} (k : Nat) (hl : HasT τ l) (hh : evl (hp.take k) = some hp') (h : AgT W τ τ') : Wk F ⟨τ, hp, N⟩ ⟨atT τ' W l, hp', N⟩ :=
  (wk_drop (σ := ⟨τ, hp, N⟩) k).trans (x_wk hl (evl_eq hh).symm h)
/-- a loop: 'slots' hold these at its head, the other slots of W are forgotten; the blocks are these -/
theorem x_loop {c : Code} {A : Type} (W : List Nat) (slots : A → List (Nat × AV)) (hps : A → List Blk) (I : A → Prop) (μ : A → Nat) (x₀ : A) (h₀ : I x₀) (hl : HasT τ (slots x₀)) (hh : hp = hps x₀)
    (round : ∀ x, I x → AC P F c (thenA (fun σ' => ∃ y, I y ∧ μ y < μ x ∧ Wk F σ' ⟨atT τ W (slots y), hps y, N⟩) Q) ⟨atT τ W (slots x), hps x, N⟩) : AC P F (.loop c) Q ⟨τ, hp, N⟩ :=
  ac_loop (fun x => ⟨atT τ W (slots x), hps x, N⟩) I μ x₀ h₀ (x_wk hl hh ag_refl) round
/-- a slot with nil becomes a row of the call's own -/
theorem x_own {c : Code} (s : Nat) (e : TypeId) (sz : Nat) (h0 : Nat.ble 1 sz = true) {k : Nat} (hs : τ s = .c (.lit (.slice none 0 0))) (hn : lenU hp = some k) {hp' : List Blk} (hf : evl (hp ++ [.row (.slice none 0 0) e sz 0 []]) = some hp') (hN : Nat.blt s N = true) (h : AC P F c Q ⟨upd N s (.own k (.slice none 0 0)) τ, hp', N⟩) : AC P F c Q ⟨τ, hp, N⟩ :=
  ac_wk (wk_own (σ := ⟨τ, hp, N⟩) s e sz (Nat.le_of_ble_eq_true h0) hs hn hf hN) h
theorem outs_nil {σ : AS} : Outs L σ [] [] := by simp only [Outs]
theorem outs_cons {σ : AS} {r : ResultVar} {rs : List ResultVar} {t : T} {ts : List T} (h : Out1 L σ r t) (h' : Outs L σ rs ts) : Outs L σ (r :: rs) (t :: ts) := by simp only [Outs]; exact ⟨t, ts, rfl, h, h'⟩
theorem out_tmp {i : Tmp} {v : AV} {t : T} (hv : τ i = v) (h : Rz hp v t) : Out1 L ⟨τ, hp, N⟩ (.tmp i) t := by simp only [Out1]; rw [hv]; exact h
theorem out_agg {a : Tmp} {ty tb : TypeId} {i b off : Nat} {cs l : List AV} {ti : TI} {t : T} (h1 : τ a = .ptr i b off) (h2 : hp[i]? = some (.box b tb cs)) (h3 : L.look ty = some ti) (ha : ti.agg = true) (hl : Nat.ble (off + ti.size) cs.length = true) (he : evl ((cs.drop off).take ti.size) = some l) (h : Rz hp (.agg l) t) : Out1 L ⟨τ, hp, N⟩ (.cell a ty) t := by
  simp only [Out1]
  refine ⟨i, b, off, tb, cs, ti, h1, h2, h3, ?_⟩
  rw [ha]
  exact ⟨Nat.le_of_ble_eq_true hl, by rw [← evl_eq he]; exact h⟩
theorem out_one {a : Tmp} {ty tb : TypeId} {i b off : Nat} {cs : List AV} {ti : TI} {v : AV} {t : T} (h1 : τ a = .ptr i b off) (h2 : hp[i]? = some (.box b tb cs)) (h3 : L.look ty = some ti) (ha : ti.agg = false) (hv : cs[off]? = some v) (h : Rz hp v t) : Out1 L ⟨τ, hp, N⟩ (.cell a ty) t := by
  simp only [Out1]
  refine ⟨i, b, off, tb, cs, ti, h1, h2, h3, ?_⟩
  rw [ha]
  exact ⟨v, hv, h⟩
theorem fin_n {σ : AS} {res : List ResultVar} {R : T → Prop} {ts : List T} (h : Outs L σ res ts) (hR : R (outT ts)) : Fin L res R .normal σ := ⟨⟨.inl rfl, ts, h, hR⟩⟩
theorem fin_r {σ : AS} {res : List ResultVar} {R : T → Prop} {ts : List T} (h : Outs L σ res ts) (hR : R (outT ts)) : Fin L res R .ret σ := ⟨⟨.inr rfl, ts, h, hR⟩⟩
theorem af_enter {f : FuncId} {fn : Func} {c : Code} {args : List T} {asq : List AV} {R : T → Prop} {N : Nat} {res : List ResultVar} (hL : TabOk P L) (hf : P.funcs[f]? = some fn) (hNt : fn.ntmps = N) (hres : fn.results = res.toArray) (hb : fn.body = some c) (hn : (fn.name == "runtime.NumGoroutine") = false) (ha : evl (args.map .c) = some asq) (hN : Nat.ble asq.length N = true)
    (h : ∀ F, (∀ b, ¬ F.X b) → AC P F c (Fin L res R) ⟨initT N asq, [], N⟩) : AF P f args R := by
  refine af_of hL hf hb hn ?_ fun F hX => ?_
  · have := Nat.le_of_ble_eq_true hN
    rw [evl_eq ha] at this
    rw [hNt]; simpa using this
  · rw [hNt, hres, ← evl_eq ha]; exact h F hX
end
section
variable {F : Frm} {τ : Nat → AV} {hp : List Blk} {N : Nat}
def frB (M : Mm) (g : Option Nat) (w : World) : Mm := fun p =>
  match M p with
  | some v => some v
  | none => if g = some p.block then (w.cell? p).bind fun v => if v.oneCell' = true then some v else none else none
theorem frB_sub (M : Mm) (g : Option Nat) (w : World) : Sub M (frB M g w) := fun p v h => by simp [frB, h]
theorem frB_new {M : Mm} {g : Option Nat} {w : World} {p : Addr} {v : Value} (hp : frB M g w p = some v) (hn : M p = none) : g = some p.block ∧ w.cell? p = some v ∧ v.oneCell' = true := by
  unfold frB at hp
  rw [hn] at hp
  simp only at hp
  split at hp
  · rename_i hg
    refine ⟨hg, ?_⟩
    cases hc : w.cell? p with
    | none => rw [hc] at hp; simp at hp
    | some u =>
      rw [hc] at hp
      simp only [Option.bind_some] at hp
      split at hp
      · injection hp with hp; subst hp; exact ⟨rfl, by assumption⟩
      · cases hp
  · cases hp
theorem heap_frz {M : Mm} {w : World} (hh : HeapOk F M hp w) {i : Nat} {v : Value} {e : TypeId} {sz n : Nat} {ts : List T} (hi : hp[i]? = some (.row v e sz n ts)) :
    HeapOk F (frB M v.ownBlock w) (hp.set i .dead) w ∧ RT (frB M v.ownBlock w) (.row n sz ts) v := by
  have hsub := frB_sub M v.ownBlock w
  have hlt : i < hp.length := (List.getElem?_eq_some_iff.1 hi).1
  have hget : ∀ (j : Nat) (x : Blk), (hp.set i .dead)[j]? = some x → (j = i ∧ x = .dead) ∨ (j ≠ i ∧ hp[j]? = some x) := by
    intro j x hx
    by_cases hj : j = i
    · subst hj
      rw [List.getElem?_set_self hlt] at hx
      exact .inl ⟨rfl, by injection hx with hx; exact hx.symm⟩
    · rw [List.getElem?_set_ne (Ne.symm hj)] at hx
      exact .inr ⟨hj, hx⟩
  refine ⟨⟨?_, ?_, hh.frm, ?_, ?_, ?_⟩, ?_⟩
  · intro p u hp
    cases hc : M p with
    | none => exact (frB_new hp hc).2
    | some u' =>
      have := hsub p u' hc
      rw [hp] at this
      obtain rfl : u = u' := by injection this
      exact hh.mem p u hc
  · refine ⟨fun p u hp => hsub p u (hh.ext.1 p u hp), fun p u hp => ?_⟩
    cases hc : M p with
    | none =>
      obtain ⟨hg, _⟩ := frB_new hp hc
      exact .inr (hh.out i _ p.block hi hg).1
    | some u' =>
      have := hsub p u' hc
      rw [hp] at this
      obtain rfl : u = u' := by injection this
      exact hh.ext.2 p u hc
  · intro j x hx
    rcases hget j x hx with ⟨_, rfl⟩ | ⟨_, hx⟩
    · trivial
    · exact (hh.at_ j x hx).keep hsub fun _ _ _ => rfl
  · intro j k x y b hx hy hxb hyb
    rcases hget j x hx with ⟨_, rfl⟩ | ⟨_, hx⟩
    · simp [Blk.blk] at hxb
    · rcases hget k y hy with ⟨_, rfl⟩ | ⟨_, hy⟩
      · simp [Blk.blk] at hyb
      · exact hh.sep j k x y b hx hy hxb hyb
  · intro j x b hx hxb
    rcases hget j x hx with ⟨_, rfl⟩ | ⟨hj, hx⟩
    · simp [Blk.blk] at hxb
    · obtain ⟨h1, h2⟩ := hh.out j x b hx hxb
      refine ⟨h1, fun p hp => ?_⟩
      cases hc : frB M v.ownBlock w p with
      | none => rfl
      | some u =>
        obtain ⟨hg, _⟩ := frB_new hc (h2 p hp)
        exact absurd (hh.sep j i x _ b hx hi hxb (by rw [← hp]; exact hg)) hj
  · obtain ⟨xs, ho, hx, h1, hsz⟩ := hh.at_ i _ hi
    obtain ⟨A, c, rfl, hnc, hcm⟩ := own_shape ho
    simp only [RT]
    refine ⟨A, c, xs, rfl, hnc, Nat.le_trans hnc hcm, hsz, ho.1, fun hn => ?_, RTs.mono hsub _ _ hx⟩
    rcases ho.2 with ⟨_, h0⟩ | ⟨g, cap, cur, hv, _, hg, _⟩
    · omega
    · have hA : A = some ⟨g, 0, none⟩ := by injection hv
      subst hA
      refine ⟨_, rfl, fun j x hj => ?_⟩
      have hn : M (Addr.add ⟨g, 0, none⟩ j) = none := (hh.out i _ g hi rfl).2 _ (by rw [add_block])
      have hc := ho.cells (g := g) rfl j x hj
      simp [frB, hn, Value.ownBlock, add_block, hc, h1 x (List.mem_of_getElem? hj)]
theorem wk_fz (s : Nat) {i : Nat} {v : Value} {e : TypeId} {sz n : Nat} {ts : List T} {hp' : List Blk} (hs : τ s = .own i v) (hi : hp[i]? = some (.row v e sz n ts)) (hf : evl (hp.set i .dead) = some hp') (hN : Nat.blt s N = true) : Wk F ⟨τ, hp, N⟩ ⟨upd N s (.c (.row n sz ts)) τ, hp', N⟩ := by
  intro M a w hr
  obtain ⟨h1, h2⟩ := heap_frz hr.heap hi
  rw [← evl_eq hf] at h1
  refine ⟨_, fun k => ?_, hr.size, hr.defers, h1⟩
  simp only [upd]
  cases hc : Nat.beq k s with
  | false => simp only [Bool.false_and, cond_false]; exact RA.mono (frB_sub _ _ _) _ _ (hr.tmps k)
  | true =>
    have := Nat.eq_of_beq_eq_true hc
    subst this
    have h3 : RA M (τ k) (a.tmps.getD k undef) := hr.tmps k
    rw [hs] at h3
    simp only [RA] at h3
    rw [hN]
    simp only [Bool.and_self, cond_true, RA]
    rw [h3.1]; exact h2
theorem x_fz {P : Program} {Q : Exit → AS → Prop} {c : Code} (s : Nat) {i : Nat} {v : Value} {e : TypeId} {sz n : Nat} {ts : List T} {hp' : List Blk} (hs : τ s = .own i v) (hi : hp[i]? = some (.row v e sz n ts)) (hf : evl (hp.set i .dead) = some hp') (hN : Nat.blt s N = true) (h : AC P F c Q ⟨upd N s (.c (.row n sz ts)) τ, hp', N⟩) : AC P F c Q ⟨τ, hp, N⟩ :=
  ac_wk (wk_fz s hs hi hf hN) h
theorem wk_frz (_hX : ∀ b, ¬ F.X b) (s : Nat) {i : Nat} {v : Value} {e : TypeId} {sz n : Nat} {ts : List T} {hp' : List Blk} (hs : τ s = .own i v) (hi : hp[i]? = some (.row v e sz n ts)) (hf : evl (hp.set i .dead) = some hp') (hN : Nat.blt s N = true) : Wk F ⟨τ, hp, N⟩ ⟨upd N s (.c (.row n sz ts)) τ, hp', N⟩ := wk_fz s hs hi hf hN
end
theorem flat_at {α : Type} (f : α → List T) (sz : Nat) (hf : ∀ a, (f a).length = sz) : ∀ {l : List α} {k : Nat} {x : α}, l[k]? = some x → ((l.flatMap f).drop (k * sz)).take sz = f x
  | [], _, _, h => by simp at h
  | a :: l, 0, x, h => by
    obtain rfl : a = x := by simpa using h
    rw [List.flatMap_cons, Nat.zero_mul, List.drop_zero, ← hf a, List.take_left]
  | a :: l, k + 1, x, h => by
    rw [List.flatMap_cons, List.drop_append, List.drop_eq_nil_of_le (by rw [hf, Nat.add_mul]; omega), List.nil_append, hf, show (k + 1) * sz - sz = k * sz by rw [Nat.add_mul]; omega]
    exact flat_at f sz hf (by simpa using h)
theorem flat_len {α : Type} (f : α → List T) (sz : Nat) (hf : ∀ a, (f a).length = sz) : ∀ l : List α, (l.flatMap f).length = l.length * sz
  | [] => by simp
  | v :: l => by rw [List.flatMap_cons, List.length_append, hf, flat_len f sz hf l, List.length_cons, Nat.add_mul]; omega
theorem flat_get {α : Type} (f : α → List T) (sz : Nat) (hf : ∀ a, (f a).length = sz) {l : List α} {k j : Nat} {x : α} (hk : l[k]? = some x) (hj : j < sz) : (l.flatMap f)[k * sz + j]? = (f x)[j]? := by
  rw [← flat_at f sz hf hk, List.getElem?_take, if_pos hj, List.getElem?_drop]
end Go.Proofs.Ythgackidonocpaa
namespace Go.Proofs.Ythgackidonocpaa
open Go.RowKit
section
variable {P : Program} {F : Frm} {ops : Array Oper} {md : Region.Mode} {N : Nat} {cls : Nat → Nat}
def updO (N : Nat) (d : Option Tmp) (v : AV) (τ : Nat → AV) : Nat → AV := match d with | none => τ | some d => upd N d v τ
def det (v : AV) (hp : List Blk) (v' : AV) (hp' : List Blk) : Prop := v' = v ∧ hp' = hp
/-- the guard lets it be carried out, or not -/
def GYes (ops : Array Oper) (τ : Nat → AV) (o : Oper) : Prop :=
  match o.guard with
  | none => True
  | some (g, b) => ∃ d, (ops[g]?).bind (·.dst) = some d ∧ τ d = .c (.lit (.bool b))
def GNo (ops : Array Oper) (τ : Nat → AV) (o : Oper) : Prop :=
  match o.guard with
  | none => False
  | some (g, b) => ∃ d, (ops[g]?).bind (·.dst) = some d ∧ ((∃ c, τ d = .c (.lit (.bool c)) ∧ c = !b) ∨ τ d = .c (.lit undef))
/-- what a writing operation (2), or one that makes a variable (3), does to the blocks -/
def Grows (k : Nat) (hp hp' : List Blk) : Prop := k = 2 ∨ ∃ y, hp' = hp ++ y
/-- what a looking operation yields -/
def YA (P : Program) (F : Frm) (ops : Array Oper) (k : Nat) (o : Oper) (v : AV) (τ : Nat → AV) (hp : List Blk) : Prop :=
  (GYes ops τ o ∧ (k = 0 → ∀ hp', LO P F o (evT τ) hp' (det v hp')) ∧ (k ≠ 0 → ∀ x, LO P F o (evT τ) (hp ++ x) (det v (hp ++ x)))) ∨ (GNo ops τ o ∧ v = .c (.lit undef))
def opA (P : Program) (F : Frm) (ops : Array Oper) (N : Nat) (cls : Nat → Nat) (i : Nat) (K : (Nat → AV) → List Blk → Prop) (τ : Nat → AV) (hp : List Blk) : Prop :=
  match ops[i]? with
  | none => K τ hp
  | some o =>
    if 2 ≤ cls i then (GYes ops τ o ∧ LO P F o (evT τ) hp fun v hp' => Grows (cls i) hp hp' ∧ K (updO N o.dst v τ) hp') ∨ (GNo ops τ o ∧ K (updO N o.dst (.c (.lit undef)) τ) hp)
    else ∃ v, YA P F ops (cls i) o v τ hp ∧ K (updO N o.dst v τ) hp
theorem opA_mono {i : Nat} {K K' : (Nat → AV) → List Blk → Prop} {τ : Nat → AV} {hp : List Blk} (h : ∀ τ hp, K τ hp → K' τ hp) (hh : opA P F ops N cls i K τ hp) : opA P F ops N cls i K' τ hp := by
  unfold opA at *
  split
  · exact h _ _ (by simpa [*] using hh)
  · rename_i o ho
    simp only [ho] at hh
    split
    · rename_i hc
      rw [if_pos hc] at hh
      rcases hh with ⟨h1, h2⟩ | ⟨h1, h2⟩
      · exact .inl ⟨h1, h2.mono fun _ _ h3 => ⟨h3.1, h _ _ h3.2⟩⟩
      · exact .inr ⟨h1, h _ _ h2⟩
    · rename_i hc
      rw [if_neg hc] at hh
      obtain ⟨v, h1, h2⟩ := hh
      exact ⟨v, h1, h _ _ h2⟩
def AnyA (P : Program) (F : Frm) (md : Region.Mode) (ops : Array Oper) (N : Nat) (cls : Nat → Nat) (Kf : (Nat → AV) → List Blk → Prop) : Nat → Array Bool → (Nat → AV) → List Blk → Prop
  | 0, listed, τ, hp => Region.ready md ops listed = [] ∧ Kf τ hp
  | fuel + 1, listed, τ, hp => (Region.ready md ops listed = [] → Kf τ hp) ∧ ∀ i ∈ Region.ready md ops listed, opA P F ops N cls i (AnyA P F md ops N cls Kf fuel (listed.setIfInBounds i true)) τ hp
theorem gyes_wanted {M : Mm} {τ : Nat → AV} {hp : List Blk} {a : Act} {w : World} (hr : Rep F M ⟨τ, hp, N⟩ a w) {o : Oper} (h : GYes ops τ o) : Region.wanted o (yielded ops a.tmps) = true := by
  unfold GYes at h
  unfold Region.wanted
  split
  · rfl
  · rename_i g b hg
    rw [hg] at h
    obtain ⟨d, h1, h2⟩ := h
    rw [yielded_of hr h1 h2]
    simp
theorem gno_wanted {M : Mm} {τ : Nat → AV} {hp : List Blk} {a : Act} {w : World} (hr : Rep F M ⟨τ, hp, N⟩ a w) {o : Oper} (h : GNo ops τ o) : Region.wanted o (yielded ops a.tmps) = false := by
  unfold GNo at h
  unfold Region.wanted
  split
  · rename_i hg; rw [hg] at h; exact h.elim
  · rename_i g b hg
    rw [hg] at h
    obtain ⟨d, h1, ⟨c, h2, h3⟩ | h2⟩ := h
    · rw [yielded_of hr h1 h2, h3]
      cases b <;> simp
    · rw [yielded_un hr h1 h2]
      rfl
theorem rep_upd {M M' : Mm} {τ : Nat → AV} {hp hp' : List Blk} {a : Act} {w w' : World} (hr : Rep F M ⟨τ, hp, N⟩ a w) (hs : Sub M M') (hh : HeapOk F M' hp' w') (d : Option Tmp) {v : AV} {u : Value} (hv : RA M' v u) : Rep F M' ⟨updO N d v τ, hp', N⟩ (a.put d u) w' := by
  have := hr.st hs hh d hv
  cases d <;> exact this
theorem wpOp_of_A {Q : Exit → Act → World → Prop} {i : Nat} {K : (Nat → AV) → List Blk → Prop} {K' : Act → World → Prop} {τ : Nat → AV} {hp : List Blk} {M : Mm} {a : Act} {w : World} (hr : Rep F M ⟨τ, hp, N⟩ a w)
    (hk : ∀ M' τ' hp' a' w', K τ' hp' → Rep F M' ⟨τ', hp', N⟩ a' w' → K' a' w') (h : opA P F ops N cls i K τ hp) : wpOp P ops Q i K' a w := by
  unfold opA at h
  unfold wpOp
  split
  · rename_i ho; simp only [ho] at h; exact hk _ _ _ _ _ h hr
  · rename_i o ho
    simp only [ho] at h
    have key : ∀ K2 : AV → List Blk → Prop, GYes ops τ o → LO P F o (evT τ) hp K2 → (∀ v hp', K2 v hp' → K (updO N o.dst v τ) hp') → (if Region.wanted o (yielded ops a.tmps) = true then o.wp P a w K' Q ∨ (o.asks P a w ∧ LetsOut Q) else K' (a.put o.dst undef) w) := by
      intro K2 hg hl h2
      rw [if_pos (gyes_wanted hr hg)]
      refine .inl ((hl.out M a.eval w (fun x _ => by have := hr.ev x; rwa [evT_eq] at this) hr.heap).wp Q fun u w' ⟨M', v, hp', g1, g2, g3, g4⟩ => hk _ _ _ _ _ (h2 v hp' g1) (rep_upd hr g2.sub g3 _ g4))
    have keyn : GNo ops τ o → K (updO N o.dst (.c (.lit undef)) τ) hp → (if Region.wanted o (yielded ops a.tmps) = true then o.wp P a w K' Q ∨ (o.asks P a w ∧ LetsOut Q) else K' (a.put o.dst undef) w) := by
      intro hg h2
      rw [if_neg (by rw [gno_wanted hr hg]; simp)]
      exact hk _ _ _ _ _ h2 (rep_upd hr (Sub.refl _) hr.heap _ (by simp only [RA, RT]))
    by_cases hc : 2 ≤ cls i
    · rw [if_pos hc] at h
      rcases h with ⟨h1, h2⟩ | ⟨h1, h2⟩
      · exact key _ h1 h2 fun _ _ h => h.2
      · exact keyn h1 h2
    · rw [if_neg hc] at h
      obtain ⟨v, h1, h2⟩ := h
      rcases h1 with ⟨hg, h3, h4⟩ | ⟨hg, rfl⟩
      · have hl : LO P F o (evT τ) hp (det v hp) := by
          by_cases h0 : cls i = 0
          · exact h3 h0 hp
          · have := h4 h0 []; rwa [List.append_nil] at this
        exact key _ hg hl fun v' hp' ⟨e1, e2⟩ => by rw [e1, e2]; exact h2
      · exact keyn hg h2
theorem wpAny_of_A {Kf : (Nat → AV) → List Blk → Prop} {Q : Exit → Act → World → Prop} (hQ : ∀ M τ hp a w, Kf τ hp → Rep F M ⟨τ, hp, N⟩ a w → Q .normal a w) : ∀ (fuel : Nat) (listed : Array Bool) (τ : Nat → AV) (hp : List Blk) (M : Mm) (a : Act) (w : World), Rep F M ⟨τ, hp, N⟩ a w →
    AnyA P F md ops N cls Kf fuel listed τ hp → wpAny P md ops Q fuel listed a w
  | 0, _, _, _, _, _, _, hr, h => ⟨h.1, hQ _ _ _ _ _ h.2 hr⟩
  | fuel + 1, _, _, _, _, _, _, hr, h => ⟨fun h0 => hQ _ _ _ _ _ (h.1 h0) hr, fun i hi => wpOp_of_A hr (fun M' τ' hp' a' w' h' hr' => wpAny_of_A hQ fuel _ τ' hp' M' a' w' hr' h') (h.2 i hi)⟩
theorem updO_comm {d d' : Option Tmp} {v v' : AV} {τ : Nat → AV} (h : ∀ x, d = some x → d' ≠ some x) : updO N d v (updO N d' v' τ) = updO N d' v' (updO N d v τ) := by
  cases d with
  | none => rfl
  | some x =>
    cases d' with
    | none => rfl
    | some y =>
      funext i
      simp only [updO, upd]
      cases hx : Nat.beq i x with
      | false => simp
      | true =>
        cases hy : Nat.beq i y with
        | false => simp
        | true =>
          have := Nat.eq_of_beq_eq_true hx
          have := Nat.eq_of_beq_eq_true hy
          subst_vars
          exact absurd rfl (h _ rfl)
theorem updO_far {d : Option Tmp} {v : AV} {τ : Nat → AV} {i : Nat} (h : d ≠ some i) : updO N d v τ i = τ i := by
  cases d with
  | none => rfl
  | some x =>
    simp only [updO, upd]
    have : Nat.beq i x = false := by
      cases hc : Nat.beq i x with
      | false => rfl
      | true => exact absurd (congrArg some (Nat.eq_of_beq_eq_true hc).symm) h
    rw [this]; rfl
theorem mem_looks {o : Oper} {t : Tmp} (h : Operand.tmp t ∈ o.op.operands.toList) : t ∈ o.looksAt ops := by
  unfold Oper.looksAt
  refine List.mem_append_left _ (List.mem_filterMap.2 ⟨_, h, rfl⟩)
theorem evT_far {d : Option Tmp} {v : AV} {τ : Nat → AV} {o : Oper} (h : ∀ x, d = some x → x ∉ o.looksAt ops) : ∀ x ∈ o.op.operands.toList, evT (updO N d v τ) x = evT τ x := by
  intro x hx
  cases x with
  | tmp t => exact updO_far fun e => h t e (mem_looks hx)
  | _ => rfl
theorem look_guard {o : Oper} {g : Nat} {b : Bool} (hg : o.guard = some (g, b)) {x : Tmp} (hx : (ops[g]?).bind (·.dst) = some x) : x ∈ o.looksAt ops := by
  unfold Oper.looksAt
  refine List.mem_append_right _ ?_
  rw [hg]
  simp [hx]
theorem gyes_far {d : Option Tmp} {v : AV} {τ : Nat → AV} {o : Oper} (h : ∀ x, d = some x → x ∉ o.looksAt ops) : GYes ops (updO N d v τ) o ↔ GYes ops τ o := by
  unfold GYes
  split
  · exact Iff.rfl
  · rename_i g b hg
    constructor
    · rintro ⟨x, h1, h2⟩
      exact ⟨x, h1, by rwa [updO_far fun e => h x e (look_guard hg h1)] at h2⟩
    · rintro ⟨x, h1, h2⟩
      exact ⟨x, h1, by rwa [updO_far fun e => h x e (look_guard hg h1)]⟩
theorem gno_far {d : Option Tmp} {v : AV} {τ : Nat → AV} {o : Oper} (h : ∀ x, d = some x → x ∉ o.looksAt ops) : GNo ops (updO N d v τ) o ↔ GNo ops τ o := by
  unfold GNo
  split
  · exact Iff.rfl
  · rename_i g b hg
    constructor
    · rintro ⟨x, h1, h2⟩
      exact ⟨x, h1, by rwa [updO_far fun e => h x e (look_guard hg h1)] at h2⟩
    · rintro ⟨x, h1, h2⟩
      exact ⟨x, h1, by rwa [updO_far fun e => h x e (look_guard hg h1)]⟩
theorem YA.far {k : Nat} {o : Oper} {v u : AV} {d : Option Tmp} {τ : Nat → AV} {hp hp' : List Blk} (hy : YA P F ops k o v τ hp) (h : ∀ x, d = some x → x ∉ o.looksAt ops) (hh : k = 0 ∨ ∃ y, hp' = hp ++ y) : YA P F ops k o v (updO N d u τ) hp' := by
  rcases hy with ⟨h1, h2, h3⟩ | ⟨h1, h2⟩
  · refine .inl ⟨(gyes_far h).2 h1, fun h0 hq => (h2 h0 hq).congr (evT_far h), fun h0 x => ?_⟩
    rcases hh with hh | ⟨y, rfl⟩
    · exact absurd hh h0
    · rw [List.append_assoc]; exact (h3 h0 (y ++ x)).congr (evT_far h)
  · exact .inr ⟨(gno_far h).2 h1, h2⟩
theorem YA.back {k : Nat} {o : Oper} {v u : AV} {d : Option Tmp} {τ : Nat → AV} {hp : List Blk} (hy : YA P F ops k o v (updO N d u τ) hp) (h : ∀ x, d = some x → x ∉ o.looksAt ops) : YA P F ops k o v τ hp := by
  rcases hy with ⟨h1, h2, h3⟩ | ⟨h1, h2⟩
  · exact .inl ⟨(gyes_far h).1 h1, fun h0 hq => (h2 h0 hq).congr (fun x hx => (evT_far h x hx).symm), fun h0 x => (h3 h0 x).congr (fun x hx => (evT_far h x hx).symm)⟩
  · exact .inr ⟨(gno_far h).1 h1, h2⟩
/-- oj, apart from the looking oi, before it -/
theorem opA_put {i j : Nat} {oi oj : Oper} {v : AV} (hj : ops[j]? = some oj) (hap : oi.apart ops oj = true) (hcl : cls j = 2 → cls i = 0) {K : (Nat → AV) → List Blk → Prop} {τ : Nat → AV} {hp : List Blk}
    (hy : YA P F ops (cls i) oi v τ hp) (h : opA P F ops N cls j K (updO N oi.dst v τ) hp) :
    opA P F ops N cls j (fun τ' hp' => YA P F ops (cls i) oi v τ' hp' ∧ K (updO N oi.dst v τ') hp') τ hp := by
  obtain ⟨h1, h2, h3⟩ := Oper.apart_spec hap
  have hcomm : ∀ u, updO N oj.dst u (updO N oi.dst v τ) = updO N oi.dst v (updO N oj.dst u τ) := fun u => updO_comm (fun x hx e => h2 x e hx)
  unfold opA at *
  simp only [hj] at *
  by_cases hc : 2 ≤ cls j
  · rw [if_pos hc] at h ⊢
    rcases h with ⟨hg, hl⟩ | ⟨hg, hk⟩
    · refine .inl ⟨(gyes_far h1).1 hg, (hl.mono fun u hp' hk => ⟨hk.1, hy.far h3 ?_, ?_⟩).congr fun x hx => (evT_far h1 x hx).symm⟩
      · exact hk.1.imp hcl id
      · rw [← hcomm]; exact hk.2
    · refine .inr ⟨(gno_far h1).1 hg, hy.far h3 (.inr ⟨[], by simp⟩), ?_⟩
      rw [← hcomm]; exact hk
  · rw [if_neg hc] at h ⊢
    obtain ⟨u, hu, hk⟩ := h
    refine ⟨u, hu.back h1, hy.far h3 (.inr ⟨[], by simp⟩), ?_⟩
    rw [← hcomm]; exact hk
/-- j waits for i, directly or not -/
def reachB (md : Region.Mode) (ops : Array Oper) : Nat → Nat → Nat → Bool
  | 0, _, _ => false
  | f + 1, j, i => match ops[j]? with
    | some oj => oj.after.any fun e => Region.binds md e && (e.on == i || reachB md ops f e.on i)
    | none => false
def ClosedL (md : Region.Mode) (ops : Array Oper) (listed : Array Bool) : Prop :=
  ∀ j oj, ops[j]? = some oj → listed.getD j false = true → ∀ e ∈ oj.after, Region.binds md e = true → listed.getD e.on false = true
theorem reach_un {listed : Array Bool} (hc : ClosedL md ops listed) {i : Nat} (hi : listed.getD i false = false) : ∀ (f j : Nat), reachB md ops f j i = true → ∀ oj, ops[j]? = some oj → ∃ e ∈ oj.after, Region.binds md e = true ∧ listed.getD e.on false = false
  | 0, _, h, _, _ => by cases h
  | f + 1, j, h, oj, hj => by
    unfold reachB at h
    rw [hj] at h
    obtain ⟨e, he, hb⟩ := Array.any_eq_true'.1 h
    simp only [Bool.and_eq_true, Bool.or_eq_true, beq_iff_eq] at hb
    refine ⟨e, he, hb.1, ?_⟩
    rcases hb.2 with h2 | h2
    · rw [h2]; exact hi
    · cases hl : listed.getD e.on false with
      | false => rfl
      | true =>
        cases ho : ops[e.on]? with
        | none =>
          cases f with
          | zero => cases h2
          | succ f => unfold reachB at h2; rw [ho] at h2; cases h2
        | some oe =>
          obtain ⟨e', he', hb', hun⟩ := reach_un hc hi f e.on h2 oe ho
          rw [hc e.on oe ho hl e' he' hb'] at hun
          cases hun
theorem reach_not_ready {listed : Array Bool} (hc : ClosedL md ops listed) {i j f : Nat} (hi : listed.getD i false = false) (h : reachB md ops f j i = true) : j ∉ Region.ready md ops listed := by
  intro hr
  obtain ⟨_, oj, hoj, hall⟩ := mem_ready.1 hr
  obtain ⟨e, he, hb, hun⟩ := reach_un hc hi f j h oj hoj
  rw [hall e he hb] at hun
  cases hun
theorem ClosedL.set {listed : Array Bool} (hc : ClosedL md ops listed) {i : Nat} (hi : i ∈ Region.ready md ops listed) : ClosedL md ops (listed.setIfInBounds i true) := by
  obtain ⟨_, oi, hoi, hall⟩ := mem_ready.1 hi
  intro j oj hj hl e he hb
  by_cases hij : i = j
  · subst hij
    have : oj = oi := Option.some.inj (hj.symm.trans hoi)
    subst this
    exact getD_set_true (hall e he hb)
  · rw [getD_set_ne false hij] at hl
    exact getD_set_true (hc j oj hj hl e he hb)
/-- what must hold of all others, for a looking operation to be taken first -/
def freeA (md : Region.Mode) (ops : Array Oper) (cls : Nat → Nat) (listed : Array Bool) (i : Nat) : Bool :=
  match ops[i]? with
  | none => false
  | some oi => (List.range ops.size).all fun j => j == i || listed.getD j true || reachB md ops ops.size j i ||
      (match ops[j]? with | some oj => oi.apart ops oj && (cls j != 2 || cls i == 0) | none => true)
theorem getD_false_of {listed : Array Bool} {i : Nat} (h : listed.getD i true = false) : listed.getD i false = false := by
  rcases Nat.lt_or_ge i listed.size with h' | h'
  · simp [h'] at h ⊢; exact h
  · simp [Array.getElem?_eq_none h'] at h
theorem anyA_first {Kf : (Nat → AV) → List Blk → Prop} {i : Nat} {oi : Oper} {v : AV} (hi : ops[i]? = some oi) :
    ∀ (fuel : Nat) (listed : Array Bool) (τ : Nat → AV) (hp : List Blk), ClosedL md ops listed →
      (∀ j oj, ops[j]? = some oj → j ≠ i → listed.getD j true = false → reachB md ops ops.size j i = false → oi.apart ops oj = true ∧ (cls j = 2 → cls i = 0)) →
      i ∈ Region.ready md ops listed → YA P F ops (cls i) oi v τ hp → ¬ 2 ≤ cls i →
      AnyA P F md ops N cls Kf fuel (listed.setIfInBounds i true) (updO N oi.dst v τ) hp → AnyA P F md ops N cls Kf (fuel + 1) listed τ hp := by
  have self : ∀ {K : (Nat → AV) → List Blk → Prop} {τ : Nat → AV} {hp : List Blk}, YA P F ops (cls i) oi v τ hp → ¬ 2 ≤ cls i → K (updO N oi.dst v τ) hp → opA P F ops N cls i K τ hp := by
    intro K τ hp hy h2 hk
    unfold opA
    simp only [hi]
    rw [if_neg h2]
    exact ⟨v, hy, hk⟩
  intro fuel
  induction fuel with
  | zero =>
    intro listed τ hp _ _ hr hy h2 H
    refine ⟨fun h => (by rw [h] at hr; cases hr), fun j hj => ?_⟩
    by_cases hji : j = i
    · subst hji; exact self hy h2 H
    · have := ready_mono hj hji
      rw [H.1] at this
      cases this
  | succ fuel ih =>
    intro listed τ hp hcl hfree hr hy h2 H
    refine ⟨fun h => (by rw [h] at hr; cases hr), fun j hj => ?_⟩
    by_cases hji : j = i
    · subst hji; exact self hy h2 H
    · have h1 := H.2 j (ready_mono hj hji)
      obtain ⟨hjun, oj, hoj, hall⟩ := mem_ready.1 hj
      have hiun := getD_false_of (mem_ready.1 hr).1
      have hnr : reachB md ops ops.size j i = false := by
        cases hc : reachB md ops ops.size j i with
        | false => rfl
        | true => exact absurd hj (reach_not_ready hcl hiun hc)
      obtain ⟨hap, hcc⟩ := hfree j oj hoj hji hjun hnr
      have h3 := opA_put hoj hap hcc hy h1
      have hfree' : ∀ k ok, ops[k]? = some ok → k ≠ i → (listed.setIfInBounds j true).getD k true = false → reachB md ops ops.size k i = false → oi.apart ops ok = true ∧ (cls k = 2 → cls i = 0) := fun k ok hk hki hun hno => by
        refine hfree k ok hk hki ?_ hno
        by_cases hjk : j = k
        · subst hjk; exact hjun
        · rw [getD_set_ne true hjk] at hun; exact hun
      refine opA_mono (fun τ' hp' h4 => ih (listed.setIfInBounds j true) τ' hp' (hcl.set hj) hfree' (ready_mono hr (Ne.symm hji)) h4.1 h2 ?_) h3
      rw [Array.setIfInBounds_comm _ _ hji]
      exact h4.2
/-- the order of the walk, checked -/
def ordB (md : Region.Mode) (ops : Array Oper) (cls : Nat → Nat) : List Nat → Array Bool → Bool
  | [], listed => (Region.ready md ops listed).isEmpty
  | i :: r, listed => (if 2 ≤ cls i then decide (Region.ready md ops listed = [i]) else (Region.ready md ops listed).contains i && freeA md ops cls listed i) && ordB md ops cls r (listed.setIfInBounds i true)
def WO (P : Program) (F : Frm) (ops : Array Oper) (N : Nat) (cls : Nat → Nat) (Kf : (Nat → AV) → List Blk → Prop) : List Nat → (Nat → AV) → List Blk → Prop
  | [], τ, hp => Kf τ hp
  | i :: r, τ, hp => opA P F ops N cls i (WO P F ops N cls Kf r) τ hp
theorem anyA_ord {Kf : (Nat → AV) → List Blk → Prop} : ∀ (r : List Nat) (listed : Array Bool) (τ : Nat → AV) (hp : List Blk), ClosedL md ops listed → ordB md ops cls r listed = true → WO P F ops N cls Kf r τ hp → AnyA P F md ops N cls Kf r.length listed τ hp
  | [], listed, τ, hp, _, hB, h => ⟨by simpa [ordB] using hB, h⟩
  | i :: r, listed, τ, hp, hc, hB, h => by
    simp only [ordB, Bool.and_eq_true] at hB
    obtain ⟨hB1, hB2⟩ := hB
    by_cases h2 : 2 ≤ cls i
    · rw [if_pos h2] at hB1
      have hr := of_decide_eq_true hB1
      refine ⟨fun h0 => (by rw [hr] at h0; cases h0), fun j hj => ?_⟩
      have : j = i := by rw [hr] at hj; simpa using hj
      subst this
      exact opA_mono (fun τ' hp' h' => anyA_ord r _ τ' hp' (hc.set hj) hB2 h') h
    · rw [if_neg h2] at hB1
      simp only [Bool.and_eq_true] at hB1
      obtain ⟨hr, hf⟩ := hB1
      have hr' : i ∈ Region.ready md ops listed := by simpa using hr
      obtain ⟨_, oi, hoi, _⟩ := mem_ready.1 hr'
      have h' := h
      simp only [WO] at h'
      unfold opA at h'
      simp only [hoi] at h'
      rw [if_neg h2] at h'
      obtain ⟨v, hy, hk⟩ := h'
      refine anyA_first hoi r.length listed τ hp hc ?_ hr' hy h2 (anyA_ord r _ _ _ (hc.set hr') hB2 hk)
      intro j oj hj hji hun hno
      unfold freeA at hf
      rw [hoi] at hf
      have := List.all_eq_true.1 hf j (List.mem_range.2 (Array.getElem?_eq_some_iff.1 hj).1)
      rw [hj] at this
      simp only [hun, hno, Bool.or_false, Bool.or_eq_true, beq_iff_eq, hji, false_or, Bool.and_eq_true, bne_iff_ne] at this
      exact ⟨this.1, fun e => by rcases this.2 with h | h; exact absurd e h; exact h⟩
end
section
variable {P : Program} {F : Frm} {τ : Nat → AV} {hp : List Blk} {N : Nat} {Q : Exit → AS → Prop} {id : Nat} {l : List Oper}
def clsOf (c : List Nat) (i : Nat) : Nat := c.getD i 1
/-- a region that draws its order, walked in the order r; c: the classes -/
theorem ac_draw (c r : List Nat) (hm : P.follows .mixedOrders = true) (hB : (ordB .any l.toArray (clsOf c) r (Array.replicate l.toArray.size false) && Nat.beq r.length l.length) = true)
    (h : WO P F l.toArray N (clsOf c) (fun τ' hp' => Q .normal ⟨τ', hp', N⟩) r τ hp) : AC P F (.region id l.toArray true) Q ⟨τ, hp, N⟩ := by
  refine ⟨fun M a w hr => ?_⟩
  simp only [Bool.and_eq_true] at hB
  have hlen := Nat.eq_of_beq_eq_true hB.2
  have hrd : Rep F M ⟨τ, hp, N⟩ a { w with drawn := w.drawn + 1 } := ⟨hr.tmps, hr.size, hr.defers, hr.heap.drew⟩
  have hcl : ClosedL .any l.toArray (Array.replicate l.toArray.size false) := fun j oj _ hl => by rw [getD_replicate_false] at hl; cases hl
  refine wp_region_any hm ?_
  have H := wpAny_of_A (Q := fun e a' w' => ∃ M' σ', Q e σ' ∧ Rep F M' σ' a' w') (fun M τ hp a w hk hr => ⟨M, _, hk, hr⟩) _ _ _ _ _ _ _ hrd (anyA_ord r _ τ hp hcl hB.1 h)
  rwa [hlen, show l.length = l.toArray.size by simp] at H
end
section
variable {P : Program} {F : Frm} {ops : Array Oper} {N : Nat} {cls : Nat → Nat} {Kf : (Nat → AV) → List Blk → Prop} {τ : Nat → AV} {hp : List Blk} {r : List Nat} {i : Nat} {d : Option Tmp} {op : Op} {ty : TypeId} {pos : String} {aft : Array Edge} {g : Nat} {b c : Bool} {dg t : Tmp}
theorem w_nil (h : Kf τ hp) : WO P F ops N cls Kf [] τ hp := h
/-- looks, and leaves the blocks -/
theorem w_q {v : AV} (ho : ops[i]? = some ⟨d, op, ty, pos, aft, none⟩) (hc : Nat.beq (cls i) 1 = true) (hl : ∀ x, LO P F ⟨d, op, ty, pos, aft, none⟩ (evT τ) (hp ++ x) (det v (hp ++ x))) (h : WO P F ops N cls Kf r (updO N d v τ) hp) : WO P F ops N cls Kf (i :: r) τ hp := by
  have hc := Nat.eq_of_beq_eq_true hc
  simp only [WO]
  unfold opA
  simp only [ho]
  rw [if_neg (by omega)]
  exact ⟨v, .inl ⟨trivial, fun h0 => by omega, fun _ => hl⟩, h⟩
/-- does not look at the blocks -/
theorem w_p {v : AV} (ho : ops[i]? = some ⟨d, op, ty, pos, aft, none⟩) (hc : Nat.beq (cls i) 0 = true) (hl : ∀ hp', LO P F ⟨d, op, ty, pos, aft, none⟩ (evT τ) hp' (det v hp')) (h : WO P F ops N cls Kf r (updO N d v τ) hp) : WO P F ops N cls Kf (i :: r) τ hp := by
  have hc := Nat.eq_of_beq_eq_true hc
  simp only [WO]
  unfold opA
  simp only [ho]
  rw [if_neg (by omega)]
  exact ⟨v, .inl ⟨trivial, fun _ => hl, fun h0 => absurd hc h0⟩, h⟩
/-- writes -/
theorem w_l (ho : ops[i]? = some ⟨d, op, ty, pos, aft, none⟩) (hc : Nat.beq (cls i) 2 = true) (hl : LO P F ⟨d, op, ty, pos, aft, none⟩ (evT τ) hp fun v hp' => WO P F ops N cls Kf r (updO N d v τ) hp') : WO P F ops N cls Kf (i :: r) τ hp := by
  have hc := Nat.eq_of_beq_eq_true hc
  simp only [WO]
  unfold opA
  simp only [ho]
  rw [if_pos (by omega)]
  exact .inl ⟨trivial, hl.mono fun _ _ h => ⟨.inl hc, h⟩⟩
theorem det_refl {v : AV} {hp : List Blk} : det v hp v hp := ⟨rfl, rfl⟩
theorem w_qg {v : AV} (ho : ops[i]? = some ⟨d, op, ty, pos, aft, some (g, b)⟩) (hc : Nat.beq (cls i) 1 = true) (hd : (ops[g]?).bind (·.dst) = some dg) (hv : τ dg = .c (.lit (.bool c))) (hcb : c = b) (hl : ∀ x, LO P F ⟨d, op, ty, pos, aft, some (g, b)⟩ (evT τ) (hp ++ x) (det v (hp ++ x))) (h : WO P F ops N cls Kf r (updO N d v τ) hp) : WO P F ops N cls Kf (i :: r) τ hp := by
  have hc := Nat.eq_of_beq_eq_true hc
  subst hcb
  simp only [WO]
  unfold opA
  simp only [ho]
  rw [if_neg (by omega)]
  exact ⟨v, .inl ⟨⟨dg, hd, hv⟩, fun h0 => by omega, fun _ => hl⟩, h⟩
theorem w_no (ho : ops[i]? = some ⟨d, op, ty, pos, aft, some (g, b)⟩) (hc : Nat.ble (cls i) 1 = true) (hd : (ops[g]?).bind (·.dst) = some dg) (hv : τ dg = .c (.lit (.bool c))) (hcb : c = !b) (h : WO P F ops N cls Kf r (updO N d (.c (.lit undef)) τ) hp) : WO P F ops N cls Kf (i :: r) τ hp := by
  have hc := Nat.le_of_ble_eq_true hc
  simp only [WO]
  unfold opA
  simp only [ho]
  rw [if_neg (by omega)]
  exact ⟨_, .inr ⟨⟨dg, hd, .inl ⟨c, hv, hcb⟩⟩, rfl⟩, h⟩
theorem w_un (ho : ops[i]? = some ⟨d, op, ty, pos, aft, some (g, b)⟩) (hc : Nat.ble (cls i) 1 = true) (hd : (ops[g]?).bind (·.dst) = some dg) (hv : τ dg = .c (.lit undef)) (h : WO P F ops N cls Kf r (updO N d (.c (.lit undef)) τ) hp) : WO P F ops N cls Kf (i :: r) τ hp := by
  have hc := Nat.le_of_ble_eq_true hc
  simp only [WO]
  unfold opA
  simp only [ho]
  rw [if_neg (by omega)]
  exact ⟨_, .inr ⟨⟨dg, hd, .inr hv⟩, rfl⟩, h⟩
end
end Go.Proofs.Ythgackidonocpaa
namespace Go.Proofs.Ythgackidonocpaa
open Go.RowKit
section
variable {hp : List Blk}
theorem rzs_self : ∀ {ts : List T}, Rzs hp (ts.map .c) ts
  | [] => by simp only [List.map_nil, Rzs]
  | t :: ts => by simp only [List.map_cons, Rzs]; exact ⟨t, ts, rfl, rz_c, rzs_self⟩
end
/-- the place of the first that p holds of, or -1 -/
def idxI {α : Type} (p : α → Bool) (l : List α) : Int := match l.findIdx? p with | some i => (i : Int) | none => -1
theorem idxI_cons {α : Type} (p : α → Bool) (a : α) (l : List α) : idxI p (a :: l) = if p a then 0 else (if idxI p l < 0 then -1 else idxI p l + 1) := by
  unfold idxI
  rw [List.findIdx?_cons]
  cases hp : p a with
  | true => simp
  | false =>
    cases h : l.findIdx? p with
    | none => simp
    | some i => simp; omega
/-- at place k: not found before -/
def idxAt {α : Type} (p : α → Bool) (l : List α) (k : Nat) : Prop := idxI p l = if idxI p (l.drop k) < 0 then -1 else idxI p (l.drop k) + k
theorem idxAt_zero {α : Type} (p : α → Bool) (l : List α) : idxAt p l 0 := by
  unfold idxAt
  rw [List.drop_zero]
  split
  · rename_i h
    unfold idxI at *
    split
    · rename_i i hi; rw [hi] at h; simp only at h; omega
    · rfl
  · simp
theorem idxAt_no {α : Type} {p : α → Bool} {l : List α} {k : Nat} {a : α} (h : idxAt p l k) (ha : l[k]? = some a) (hp : p a = false) : idxAt p l (k + 1) := by
  unfold idxAt at *
  obtain ⟨h1, rfl⟩ := List.getElem?_eq_some_iff.1 ha
  rw [List.drop_eq_getElem_cons h1, idxI_cons, hp] at h
  rw [h]
  simp only [Bool.false_eq_true, if_false]
  by_cases hc : idxI p (l.drop (k + 1)) < 0
  · simp [hc]
  · simp only [hc, if_false]
    rw [if_neg (by omega)]
    omega
theorem idxAt_yes {α : Type} {p : α → Bool} {l : List α} {k : Nat} {a : α} (h : idxAt p l k) (ha : l[k]? = some a) (hp : p a = true) : idxI p l = k := by
  unfold idxAt at h
  obtain ⟨h1, rfl⟩ := List.getElem?_eq_some_iff.1 ha
  rw [List.drop_eq_getElem_cons h1, idxI_cons, hp] at h
  simpa using h
theorem idxAt_end {α : Type} {p : α → Bool} {l : List α} (h : idxAt p l l.length) : idxI p l = -1 := by
  unfold idxAt at h
  rw [List.drop_length] at h
  simpa [idxI] using h
theorem idxI_any {α : Type} (p : α → Bool) (l : List α) : decide (0 ≤ idxI p l) = l.any p := by
  induction l with
  | nil => simp [idxI]
  | cons a l ih =>
    rw [idxI_cons, List.any_cons, ← ih]
    cases hp : p a with
    | true => simp
    | false =>
      by_cases hc : idxI p l < 0
      · simp [hc]
      · simp [hc]; omega
end Go.Proofs.Ythgackidonocpaa
namespace Go.Proofs.Ythgackidonocpaa
open Go.RowKit
/-- what a slot holds, laid open -/
def fc : AV → Option AV
  | .c t => some (.c t)
  | .agg cs => some (.agg cs)
  | .tup cs => some (.tup cs)
  | .fn f cap => some (.fn f cap)
  | .ptr i b off => some (.ptr i b off)
  | .own i v => some (.own i v)
  | .eptr i v k => some (.eptr i v k)
  | .junk => none
theorem fc_eq : ∀ {v u : AV}, fc v = some u → v = u
  | .c _, _, h => by injection h
  | .agg _, _, h => by injection h
  | .tup _, _, h => by injection h
  | .fn _ _, _, h => by injection h
  | .ptr _ _ _, _, h => by injection h
  | .own _ _, _, h => by injection h
  | .eptr _ _ _, _, h => by injection h
  | .junk, _, h => by cases h
section
variable {P : Program} {F : Frm} {L : Tab} {ops : Array Oper} {K : AS → Prop} {τ : Nat → AV} {hp : List Blk} {N : Nat} {rest : List Oper} {op : Op} {ty : TypeId} {pos : String} {aft : Array Edge} {g : Nat} {b c : Bool} {d t : Tmp} {σ : AS}
theorem zNil (h : K σ) : AL P F ops K [] σ := al_nil h
theorem zOp (h : LO P F ⟨some t, op, ty, pos, aft, none⟩ (evT τ) hp fun v hp' => AL P F ops K rest ⟨upd N t v τ, hp', N⟩) : AL P F ops K (⟨some t, op, ty, pos, aft, none⟩ :: rest) ⟨τ, hp, N⟩ := x_op h
theorem zOpn (h : LO P F ⟨none, op, ty, pos, aft, none⟩ (evT τ) hp fun _ hp' => AL P F ops K rest ⟨τ, hp', N⟩) : AL P F ops K (⟨none, op, ty, pos, aft, none⟩ :: rest) ⟨τ, hp, N⟩ := x_opn h
theorem zYes (h : LO P F ⟨some t, op, ty, pos, aft, some (g, b)⟩ (evT τ) hp fun v hp' => AL P F ops K rest ⟨upd N t v τ, hp', N⟩) (hd : (ops[g]?).bind (·.dst) = some d := by exact rfl) (hv : τ d = .c (.lit (.bool c)) := by exact rfl) (hc : c = b := by first | exact rfl | assumption | exact neg_t (by assumption) | exact neg_f (by assumption)) :
    AL P F ops K (⟨some t, op, ty, pos, aft, some (g, b)⟩ :: rest) ⟨τ, hp, N⟩ := x_yes hd hv hc h
theorem zYesn (h : LO P F ⟨none, op, ty, pos, aft, some (g, b)⟩ (evT τ) hp fun _ hp' => AL P F ops K rest ⟨τ, hp', N⟩) (hd : (ops[g]?).bind (·.dst) = some d := by exact rfl) (hv : τ d = .c (.lit (.bool c)) := by exact rfl) (hc : c = b := by first | exact rfl | assumption | exact neg_t (by assumption) | exact neg_f (by assumption)) :
    AL P F ops K (⟨none, op, ty, pos, aft, some (g, b)⟩ :: rest) ⟨τ, hp, N⟩ := x_yesn hd hv hc h
theorem zNo (h : AL P F ops K rest ⟨upd N t (.c (.lit undef)) τ, hp, N⟩) (hd : (ops[g]?).bind (·.dst) = some d := by exact rfl) (hv : τ d = .c (.lit (.bool c)) := by exact rfl) (hc : c = !b := by first | exact rfl | assumption | exact neg_t (by assumption) | exact neg_f (by assumption)) :
    AL P F ops K (⟨some t, op, ty, pos, aft, some (g, b)⟩ :: rest) ⟨τ, hp, N⟩ := x_no hd hv hc h
theorem zNon (h : AL P F ops K rest ⟨τ, hp, N⟩) (hd : (ops[g]?).bind (·.dst) = some d := by exact rfl) (hv : τ d = .c (.lit (.bool c)) := by exact rfl) (hc : c = !b := by first | exact rfl | assumption | exact neg_t (by assumption) | exact neg_f (by assumption)) :
    AL P F ops K (⟨none, op, ty, pos, aft, some (g, b)⟩ :: rest) ⟨τ, hp, N⟩ := x_non hd hv hc h
theorem zUn (h : AL P F ops K rest ⟨upd N t (.c (.lit undef)) τ, hp, N⟩) (hd : (ops[g]?).bind (·.dst) = some d := by exact rfl) (hv : τ d = .c (.lit undef) := by exact rfl) : AL P F ops K (⟨some t, op, ty, pos, aft, some (g, b)⟩ :: rest) ⟨τ, hp, N⟩ := x_un hd hv h
theorem zUnn (h : AL P F ops K rest ⟨τ, hp, N⟩) (hd : (ops[g]?).bind (·.dst) = some d := by exact rfl) (hv : τ d = .c (.lit undef) := by exact rfl) : AL P F ops K (⟨none, op, ty, pos, aft, some (g, b)⟩ :: rest) ⟨τ, hp, N⟩ := x_unn hd hv h
end
section
variable {P : Program} {F : Frm} {L : Tab} {τ τ' : Nat → AV} {hp hp' : List Blk} {N : Nat} {Q : Exit → AS → Prop}
theorem zT {c : Operand} {x y : Code} {t : Bool} (h : AC P F x Q ⟨τ, hp, N⟩) (hc : evT τ c = .c (.lit (.bool t)) := by exact rfl) (ht : t = true := by first | exact rfl | assumption | exact neg_t (by assumption)) : AC P F (.cond c x y) Q ⟨τ, hp, N⟩ := x_t hc ht h
theorem zF {c : Operand} {x y : Code} {t : Bool} (h : AC P F y Q ⟨τ, hp, N⟩) (hc : evT τ c = .c (.lit (.bool t)) := by exact rfl) (ht : t = false := by first | exact rfl | assumption | exact neg_f (by assumption)) : AC P F (.cond c x y) Q ⟨τ, hp, N⟩ := x_f hc ht h
end
section
variable {P : Program} {F : Frm} {L : Tab} {d : Option Tmp} {ty : TypeId} {pos : String} {aft : Array Edge} {g : Option (Nat × Bool)} {ρ : Operand → AV} {hp : List Blk} {K : AV → List Blk → Prop}
theorem zkL {t : TypeId} {x : Operand} (h : LO P F ⟨d, .load t x, ty, pos, aft, g⟩ ρ hp K) : LO P F ⟨d, .load t x, ty, pos, aft, g⟩ ρ hp K := h
theorem zkF {t : TypeId} {x : Operand} {k : Nat} (h : LO P F ⟨d, .fieldAddr t x k, ty, pos, aft, g⟩ ρ hp K) : LO P F ⟨d, .fieldAddr t x k, ty, pos, aft, g⟩ ρ hp K := h
theorem zkB {o : BinOp} {t t' : TypeId} {x y : Operand} (h : LO P F ⟨d, .binOp o t x y t', ty, pos, aft, g⟩ ρ hp K) : LO P F ⟨d, .binOp o t x y t', ty, pos, aft, g⟩ ρ hp K := h
theorem zkI {b : Builtin} {xs : Array Operand} {ts : Array TypeId} (h : LO P F ⟨d, .call { callee := .builtin b, args := xs, argTypes := ts }, ty, pos, aft, g⟩ ρ hp K) : LO P F ⟨d, .call { callee := .builtin b, args := xs, argTypes := ts }, ty, pos, aft, g⟩ ρ hp K := h
theorem zM {x : Operand} {v : AV} (h : K v hp) (hv : fc (ρ x) = some v := by exact rfl) : LO P F ⟨d, .move x, ty, pos, aft, g⟩ ρ hp K := lo_move (fc_eq hv) h
theorem zA {x : Operand} {v : AV} (h : K v hp) (hv : fc (ρ x) = some v := by exact rfl) : LO P F ⟨d, .assign x, ty, pos, aft, g⟩ ρ hp K := lo_assign (fc_eq hv) h
theorem zPt {c x y : Operand} {v : AV} {b : Bool} (h : K v hp) (hc : ρ c = .c (.lit (.bool b)) := by exact rfl) (hb : b = true := by first | exact rfl | assumption | exact neg_t (by assumption)) (hv : fc (ρ x) = some v := by exact rfl) : LO P F ⟨d, .pick c x y, ty, pos, aft, g⟩ ρ hp K := v_pick_t hc hb (fc_eq hv) h
theorem zPf {c x y : Operand} {v : AV} {b : Bool} (h : K v hp) (hc : ρ c = .c (.lit (.bool b)) := by exact rfl) (hb : b = false := by first | exact rfl | assumption | exact neg_f (by assumption)) (hv : fc (ρ y) = some v := by exact rfl) : LO P F ⟨d, .pick c x y, ty, pos, aft, g⟩ ρ hp K := v_pick_f hc hb (fc_eq hv) h
theorem zE {x : Operand} {ts : List T} {k : Nat} {t : T} (h : K (.c t) hp) (hx : ρ x = .c (.tup ts) := by exact rfl) (hk : ts[k]? = some t := by exact rfl) : LO P F ⟨d, .extract x k, ty, pos, aft, g⟩ ρ hp K := lo_extract hx hk h
theorem zEA {x : Operand} {ts : List AV} {k : Nat} {t : AV} (h : K t hp) (hx : ρ x = .tup ts := by exact rfl) (hk : ts[k]? = some t := by exact rfl) : LO P F ⟨d, .extract x k, ty, pos, aft, g⟩ ρ hp K := lo_extractA hx hk h
theorem zAl {t : TypeId} {ti : TI} {cs : List AV} {n : Nat} {hp' : Nat → List Blk} (h : ∀ b, K (.ptr n b 0) (hp' b)) (hL : TabOk P L := by exact tok) (ht : L.look t = some ti := by exact rfl) (hz : evl (ti.zero.map fun v => AV.c (.lit v)) = some cs := by exact rfl) (hn : lenU hp = some n := by exact rfl) (hf : ∀ b, evl (hp ++ [.box b t cs]) = some (hp' b) := by exact fun _ => rfl) : LO P F ⟨d, .alloc t, ty, pos, aft, g⟩ ρ hp K := v_alloc hL ht hz hn hf h
theorem zBx {t : TypeId} {x : Operand} {v : AV} {cs : List AV} {n : Nat} {hp' : Nat → List Blk} (h : ∀ b, K (.ptr n b 0) (hp' b)) (hv : fc (ρ x) = some v := by exact rfl) (hc : evl (cellsA v) = some cs := by exact rfl) (h1 : allOne cs = true := by first | exact rfl | assumption) (hn : lenU hp = some n := by exact rfl) (hf : ∀ b, evl (hp ++ [.box b t cs]) = some (hp' b) := by exact fun _ => rfl) : LO P F ⟨d, .box t x, ty, pos, aft, g⟩ ρ hp K := v_box (fc_eq hv) hc h1 hn hf h
theorem zS {t : TypeId} {ti : TI} {x y : Operand} {i b off : Nat} {tb : TypeId} {cs vs cs' : List AV} {v : AV} {hp' : List Blk} (h : K (.c (.lit undef)) hp') (hL : TabOk P L := by exact tok) (hx : ρ x = .ptr i b off := by exact rfl) (hi : hp[i]? = some (.box b tb cs) := by exact rfl) (hv : fc (ρ y) = some v := by exact rfl) (ht : L.look t = some ti := by exact rfl) (hc : evl (cellsA v) = some vs := by exact rfl) (h1 : allOne vs = true := by first | exact rfl | assumption) (hl : lenU vs = some ti.size := by exact rfl) (hb : Nat.ble (off + ti.size) cs.length = true := by exact rfl) (hs : evl (spl cs off vs) = some cs' := by exact rfl) (hf : evl (hp.set i (.box b tb cs')) = some hp' := by exact rfl) :
    LO P F ⟨d, .store t x y, ty, pos, aft, g⟩ ρ hp K := v_store hL hx hi (fc_eq hv) ht hc h1 hl hb hs hf h
theorem zL1 {t : TypeId} {ti : TI} {x : Operand} {i b off : Nat} {tb : TypeId} {cs : List AV} {v : AV} (h : K v hp) (hL : TabOk P L := by exact tok) (hx : ρ x = .ptr i b off := by exact rfl) (hi : hp[i]? = some (.box b tb cs) := by exact rfl) (ht : L.look t = some ti := by exact rfl) (ha : ti.agg = false := by exact rfl) (hv : cs[off]? = some v := by exact rfl) : LO P F ⟨d, .load t x, ty, pos, aft, g⟩ ρ hp K := lo_load_box1 hL hx hi ht ha hv h
theorem zL2 {t : TypeId} {ti : TI} {x : Operand} {i b off : Nat} {tb : TypeId} {cs l : List AV} (h : K (.agg l) hp) (hL : TabOk P L := by exact tok) (hx : ρ x = .ptr i b off := by exact rfl) (hi : hp[i]? = some (.box b tb cs) := by exact rfl) (ht : L.look t = some ti := by exact rfl) (ha : ti.agg = true := by exact rfl) (hl : Nat.ble (off + ti.size) cs.length = true := by exact rfl) (he : evl ((cs.drop off).take ti.size) = some l := by exact rfl) : LO P F ⟨d, .load t x, ty, pos, aft, g⟩ ρ hp K := v_load_box hL hx hi ht ha hl he h
theorem zL3 {t : TypeId} {ti : TI} {x : Operand} {off : Nat} {cs : List T} {v : T} (h : K (.c v) hp) (hL : TabOk P L := by exact tok) (hx : ρ x = .c (.pin cs off) := by exact rfl) (ht : L.look t = some ti := by exact rfl) (ha : ti.agg = false := by exact rfl) (hv : cs[off]? = some v := by exact rfl) : LO P F ⟨d, .load t x, ty, pos, aft, g⟩ ρ hp K := lo_load_pin1 hL hx ht ha hv h
/-- the element of a row that came in; what it is must be told -/
theorem zEl {t : TypeId} {ti : TI} {x : Operand} {off : Nat} {cs ts : List T} (hts : (cs.drop off).take ti.size = ts) (hl : ts.length = ti.size) (h : K (.c (.agg ts)) hp) (hL : TabOk P L := by exact tok) (hx : ρ x = .c (.pin cs off) := by exact rfl) (ht : L.look t = some ti := by exact rfl) (ha : ti.agg = true := by exact rfl) : LO P F ⟨d, .load t x, ty, pos, aft, g⟩ ρ hp K := lo_load_pin hL hx ht ha hts hl h
theorem zLp {t : TypeId} {ti : TI} {x : Operand} {off : Nat} {cs ts : List T} (h : K (.c (.agg ts)) hp) (hL : TabOk P L := by exact tok) (hx : ρ x = .c (.pin cs off) := by exact rfl) (ht : L.look t = some ti := by exact rfl) (ha : ti.agg = true := by exact rfl) (hts : evl ((cs.drop off).take ti.size) = some ts := by exact rfl) (hl : lenU ts = some ti.size := by exact rfl) : LO P F ⟨d, .load t x, ty, pos, aft, g⟩ ρ hp K := lo_load_pin hL hx ht ha (evl_eq hts).symm (lenU_eq hl).symm h
theorem zEl1 {t : TypeId} {ti : TI} {x : Operand} {off : Nat} {cs : List T} {v : T} (hv : cs[off]? = some v) (h : K (.c v) hp) (hL : TabOk P L := by exact tok) (hx : ρ x = .c (.pin cs off) := by exact rfl) (ht : L.look t = some ti := by exact rfl) (ha : ti.agg = false := by exact rfl) : LO P F ⟨d, .load t x, ty, pos, aft, g⟩ ρ hp K := lo_load_pin1 hL hx ht ha hv h
theorem zIx {t el : TypeId} {ti te : TI} {x y : Operand} {n sz : Nat} {cs : List T} {k : IntKind} {z : Int} (j : Nat) (hj : j < n) (h : K (.c (.pin cs (j * sz))) hp) (hL : TabOk P L := by exact tok) (hx : ρ x = .c (.row n sz cs) := by exact rfl) (hy : ρ y = .c (.lit (.int k z)) := by exact rfl) (hz : z = (j : Int) := by exact rfl) (ht : L.look t = some ti := by exact rfl) (hd : ti.d = .slice el := by exact rfl) (hte : L.look el = some te := by exact rfl) (hsz : te.size = sz := by exact rfl) : LO P F ⟨d, .indexAddr t x y, ty, pos, aft, g⟩ ρ hp K := lo_idx hL j hx hy hz hj ht hd hte hsz h
theorem zIxo {t el : TypeId} {ti te : TI} {x y : Operand} {i n sz : Nat} {v : Value} {e' : TypeId} {cs : List T} {k : IntKind} {z : Int} (j : Nat) (hj : j < n) (h : K (.eptr i v (j * sz)) hp) (hL : TabOk P L := by exact tok) (hx : ρ x = .own i v := by exact rfl) (hi : hp[i]? = some (.row v e' sz n cs) := by exact rfl) (hy : ρ y = .c (.lit (.int k z)) := by exact rfl) (hz : z = (j : Int) := by exact rfl) (ht : L.look t = some ti := by exact rfl) (hd : ti.d = .slice el := by exact rfl) (hte : L.look el = some te := by exact rfl) (hsz : te.size = sz := by exact rfl) : LO P F ⟨d, .indexAddr t x y, ty, pos, aft, g⟩ ρ hp K := lo_idx_own hL j hx hi hy hz hj ht hd hte hsz h
theorem zElo {t : TypeId} {ti : TI} {x : Operand} {i off n sz : Nat} {v : Value} {e' : TypeId} {cs ts : List T} (hts : (cs.drop off).take ti.size = ts) (hl : ts.length = ti.size) (h : K (.c (.agg ts)) hp) (hL : TabOk P L := by exact tok) (hx : ρ x = .eptr i v off := by exact rfl) (hi : hp[i]? = some (.row v e' sz n cs) := by exact rfl) (ht : L.look t = some ti := by exact rfl) (ha : ti.agg = true := by exact rfl) : LO P F ⟨d, .load t x, ty, pos, aft, g⟩ ρ hp K := lo_load_e hL hx hi ht ha hts hl h
theorem zElo1 {t : TypeId} {ti : TI} {x : Operand} {i off n sz : Nat} {v : Value} {e' : TypeId} {cs : List T} {u : T} (hv : cs[off]? = some u) (h : K (.c u) hp) (hL : TabOk P L := by exact tok) (hx : ρ x = .eptr i v off := by exact rfl) (hi : hp[i]? = some (.row v e' sz n cs) := by exact rfl) (ht : L.look t = some ti := by exact rfl) (ha : ti.agg = false := by exact rfl) : LO P F ⟨d, .load t x, ty, pos, aft, g⟩ ρ hp K := lo_load_e1 hL hx hi ht ha hv h
theorem zF1 {s : TypeId} {ti : TI} {fs : List (Nat × Nat)} {k o sz : Nat} {x : Operand} {i b off : Nat} (h : K (.ptr i b (off + o)) hp) (hL : TabOk P L := by exact tok) (hx : ρ x = .ptr i b off := by exact rfl) (ht : L.look s = some ti := by exact rfl) (hd : ti.d = .struct fs := by exact rfl) (hk : fs[k]? = some (o, sz) := by exact rfl) (h0 : Nat.beq sz 0 = false := by exact rfl) : LO P F ⟨d, .fieldAddr s x k, ty, pos, aft, g⟩ ρ hp K := lo_fld hL hx ht hd hk h0 h
theorem zF2 {s : TypeId} {ti : TI} {fs : List (Nat × Nat)} {k o sz : Nat} {x : Operand} {cs : List T} {off : Nat} (h : K (.c (.pin cs (off + o))) hp) (hL : TabOk P L := by exact tok) (hx : ρ x = .c (.pin cs off) := by exact rfl) (ht : L.look s = some ti := by exact rfl) (hd : ti.d = .struct fs := by exact rfl) (hk : fs[k]? = some (o, sz) := by exact rfl) (h0 : Nat.beq sz 0 = false := by exact rfl) : LO P F ⟨d, .fieldAddr s x k, ty, pos, aft, g⟩ ρ hp K := lo_fld_pin hL hx ht hd hk h0 h
theorem zF3 {s : TypeId} {ti : TI} {fs : List (Nat × Nat)} {k o sz : Nat} {x : Operand} {i : Nat} {v : Value} {off : Nat} (h : K (.eptr i v (off + o)) hp) (hL : TabOk P L := by exact tok) (hx : ρ x = .eptr i v off := by exact rfl) (ht : L.look s = some ti := by exact rfl) (hd : ti.d = .struct fs := by exact rfl) (hk : fs[k]? = some (o, sz) := by exact rfl) (h0 : Nat.beq sz 0 = false := by exact rfl) : LO P F ⟨d, .fieldAddr s x k, ty, pos, aft, g⟩ ρ hp K := lo_fld_e hL hx ht hd hk h0 h
theorem zN1 {t el : TypeId} {ti : TI} {x : Operand} {n sz : Nat} {cs : List T} (h : n ≤ 9223372036854775807 → K (.c (.lit (.int .i64 n))) hp) (hL : TabOk P L := by exact tok) (hx : ρ x = .c (.row n sz cs) := by exact rfl) (ht : L.look t = some ti := by exact rfl) (hd : ti.d = .slice el := by exact rfl) : LO P F ⟨d, .call { callee := .builtin .len, args := #[x], argTypes := #[t] }, ty, pos, aft, g⟩ ρ hp K := lo_len hL hx ht hd h
theorem zN2 {t el : TypeId} {ti : TI} {x : Operand} {i n sz : Nat} {v : Value} {e' : TypeId} {cs : List T} (h : n ≤ 9223372036854775807 → K (.c (.lit (.int .i64 n))) hp) (hL : TabOk P L := by exact tok) (hx : ρ x = .own i v := by exact rfl) (hi : hp[i]? = some (.row v e' sz n cs) := by exact rfl) (ht : L.look t = some ti := by exact rfl) (hd : ti.d = .slice el := by exact rfl) : LO P F ⟨d, .call { callee := .builtin .len, args := #[x], argTypes := #[t] }, ty, pos, aft, g⟩ ρ hp K := lo_len_own hL hx hi ht hd h
theorem zN3 {t : TypeId} {ti : TI} {x : Operand} {s : ByteArray} (h : K (.c (.lit (.int .i64 s.size))) hp) (hL : TabOk P L := by exact tok) (hx : ρ x = .c (.lit (.string s)) := by exact rfl) (ht : L.look t = some ti := by exact rfl) (hd : ti.d = .string := by exact rfl) : LO P F ⟨d, .call { callee := .builtin .len, args := #[x], argTypes := #[t] }, ty, pos, aft, g⟩ ρ hp K := lo_len_str hL hx ht hd h
theorem zN4 {t el : TypeId} {ti : TI} {x : Operand} (h : K (.c (.lit (.int .i64 0))) hp) (hL : TabOk P L := by exact tok) (hx : ρ x = .c (.lit (.slice none 0 0)) := by exact rfl) (ht : L.look t = some ti := by exact rfl) (hd : ti.d = .slice el := by exact rfl) : LO P F ⟨d, .call { callee := .builtin .len, args := #[x], argTypes := #[t] }, ty, pos, aft, g⟩ ρ hp K := lo_len_nil hL hx ht hd h
theorem zAp {t el : TypeId} {ti te : TI} {x y : Operand} {i n m sz : Nat} {v : Value} {cs ts : List T} {hp' : Value → List Blk} (h : ∀ v', K (.own i v') (hp' v')) (hL : TabOk P L := by exact tok) (hx : ρ x = .own i v := by exact rfl) (hi : hp[i]? = some (.row v el sz n cs) := by exact rfl) (hy : ρ y = .c (.row m sz ts) := by exact rfl) (ht : L.look t = some ti := by exact rfl) (hd : ti.d = .slice el := by exact rfl) (hte : L.look el = some te := by exact rfl) (hsz : te.size = sz := by exact rfl) (hf : ∀ v', evl (hp.set i (.row v' el sz (n + m) (cs ++ ts))) = some (hp' v') := by exact fun _ => rfl)
    (h63 : n + m ≤ maxLen := by first | (simp only [maxLen]; omega) | (simp only [maxLen]; dsimp only at *; omega)) (hbytes : (n + m) * te.bytes ≤ 140737488355328 := by first | (simp only []; omega) | (dsimp only at *; omega)) : LO P F ⟨d, .call { callee := .builtin .append, args := #[x, y], argTypes := #[t, t] }, ty, pos, aft, g⟩ ρ hp K := v_app hL hx hi hy ht hd hte hsz hf h63 hbytes h
theorem zBd {t : TypeId} {ti : TI} {fs : List (Nat × Nat)} {parts : List (Nat × Operand)} {cs cs' : List AV} (h : K (.agg cs') hp) (hL : TabOk P L := by exact tok) (ht : L.look t = some ti := by exact rfl) (hd : ti.d = .struct fs := by exact rfl) (hf : fillA (fun i => fs[i]?) (ti.zero.map fun v => .c (.lit v)) (parts.map fun p => (p.1, ρ p.2)) = some cs := by exact rfl) (he : evl cs = some cs' := by exact rfl) : LO P F ⟨d, .build t parts.toArray, ty, pos, aft, g⟩ ρ hp K := v_build hL ht hd hf he h
theorem zBs {t el : TypeId} {ti te : TI} {n : Nat} {parts : List (Nat × Operand)} {cs cs' : List AV} {ts : List T} (h : K (.c (.row n te.size ts)) hp) (hL : TabOk P L := by exact tok) (ht : L.look t = some ti := by exact rfl) (hd : ti.d = .slice el := by exact rfl) (hte : L.look el = some te := by exact rfl) (h0 : Nat.ble 1 te.size = true := by exact rfl) (hn : Nat.ble (n * te.size) 16777216 = true := by exact rfl)
    (hf : fillA (fun i => some (i * te.size, te.size)) ((List.range (n * te.size)).map fun j => .c (.lit (te.zero.getD (j % te.size) undef))) (parts.map fun p => (p.1, ρ p.2)) = some cs := by exact rfl) (he : evl cs = some cs' := by exact rfl) (hz : Rzs [] cs' ts := by repeat (first | exact rzs_nil | apply rzs_cons | exact rz_c | exact rz_nil rfl | apply rz_agg | exact rz_own rfl | apply rz_fn | exact rz_ptr rfl | apply rz_tup)) : LO P F ⟨d, .buildSlice t n parts.toArray, ty, pos, aft, g⟩ ρ hp K := v_bslice hL ht hd hte h0 hn hf he hz h
theorem zFn {f : Fn} {cap : List Operand} {l : List AV} (h : K (.fn f l) hp) (he : evl (cap.map ρ) = some l := by exact rfl) : LO P F ⟨d, .makeFunc f #[] cap.toArray, ty, pos, aft, g⟩ ρ hp K := v_func he h
theorem zCall {f : FuncId} {y : Operand} {xs : List Operand} {ats : Array TypeId} {ts : List T} {R : T → Prop} {cap : List AV} (hc : AF P f ts R) (h : ∀ r, R r → K (.c r) hp) (hy : ρ y = .fn (.func f) cap := by exact rfl) (hx : Rzs [] (xs.map ρ ++ cap) ts := by repeat (first | exact rzs_nil | apply rzs_cons | exact rz_c | exact rz_nil rfl | apply rz_agg | exact rz_own rfl | apply rz_fn | exact rz_ptr rfl | apply rz_tup)) : LO P F ⟨d, .call { callee := .value y, args := xs.toArray, argTypes := ats }, ty, pos, aft, g⟩ ρ hp K := lo_call hc hy hx h
theorem zCallc {f : FuncId} {y : Operand} {xs : List Operand} {ats : Array TypeId} {ts cap : List T} {R : T → Prop} (hc : AF P f ts R) (h : ∀ r, R r → K (.c r) hp) (hy : ρ y = .c (.fn (.func f) cap) := by exact rfl) (hx : Rzs [] (xs.map ρ ++ cap.map .c) ts := by first | exact rzs_cons rz_c rzs_self | repeat (first | exact rzs_nil | apply rzs_cons | exact rz_c | exact rz_nil rfl | apply rz_agg | exact rz_own rfl | apply rz_fn | exact rz_ptr rfl | apply rz_tup)) : LO P F ⟨d, .call { callee := .value y, args := xs.toArray, argTypes := ats }, ty, pos, aft, g⟩ ρ hp K := v_callc hc hy hx h
variable {t t' : TypeId} {x y : Operand} {k : IntKind} {a b : Int} {s s' : ByteArray}
theorem zInc {n : Nat} (h : K (.c (.lit (.int .i64 ((n + 1 : Nat) : Int)))) hp) (hx : ρ x = .c (.lit (.int .i64 n)) := by exact rfl) (hy : ρ y = .c (.lit (.int .i64 1)) := by exact rfl) (hb : n < 9223372036854775807 := by first | omega | (dsimp only at *; omega)) : LO P F ⟨d, .binOp .add t x y t', ty, pos, aft, g⟩ ρ hp K := lo_inc hx hy hb h
theorem zNot {c : Bool} (h : K (.c (.lit (.bool !c))) hp) (hx : ρ x = .c (.lit (.bool c)) := by exact rfl) : LO P F ⟨d, .unOp .not t x, ty, pos, aft, g⟩ ρ hp K := lo_not hx h
theorem zC1 (h : K (.c (.lit (.bool (decide (a < b))))) hp) (hx : ρ x = .c (.lit (.int k a)) := by exact rfl) (hy : ρ y = .c (.lit (.int k b)) := by exact rfl) : LO P F ⟨d, .binOp .lss t x y t', ty, pos, aft, g⟩ ρ hp K := lo_lss hx hy h
theorem zC2 (h : K (.c (.lit (.bool (decide (a ≤ b))))) hp) (hx : ρ x = .c (.lit (.int k a)) := by exact rfl) (hy : ρ y = .c (.lit (.int k b)) := by exact rfl) : LO P F ⟨d, .binOp .leq t x y t', ty, pos, aft, g⟩ ρ hp K := lo_leq hx hy h
theorem zC3 (h : K (.c (.lit (.bool (decide (b < a))))) hp) (hx : ρ x = .c (.lit (.int k a)) := by exact rfl) (hy : ρ y = .c (.lit (.int k b)) := by exact rfl) : LO P F ⟨d, .binOp .gtr t x y t', ty, pos, aft, g⟩ ρ hp K := lo_gtr hx hy h
theorem zC4 (h : K (.c (.lit (.bool (decide (b ≤ a))))) hp) (hx : ρ x = .c (.lit (.int k a)) := by exact rfl) (hy : ρ y = .c (.lit (.int k b)) := by exact rfl) : LO P F ⟨d, .binOp .geq t x y t', ty, pos, aft, g⟩ ρ hp K := lo_geq hx hy h
theorem zC5 (h : K (.c (.lit (.bool (decide (a = b))))) hp) (hx : ρ x = .c (.lit (.int k a)) := by exact rfl) (hy : ρ y = .c (.lit (.int k b)) := by exact rfl) : LO P F ⟨d, .binOp .eql t x y t', ty, pos, aft, g⟩ ρ hp K := lo_eql hx hy h
theorem zC6 (h : K (.c (.lit (.bool (!decide (a = b))))) hp) (hx : ρ x = .c (.lit (.int k a)) := by exact rfl) (hy : ρ y = .c (.lit (.int k b)) := by exact rfl) : LO P F ⟨d, .binOp .neq t x y t', ty, pos, aft, g⟩ ρ hp K := lo_neq hx hy h
theorem zS1 (h : K (.c (.lit (.bool (strLt s s')))) hp) (hx : ρ x = .c (.lit (.string s)) := by exact rfl) (hy : ρ y = .c (.lit (.string s')) := by exact rfl) : LO P F ⟨d, .binOp .lss t x y t', ty, pos, aft, g⟩ ρ hp K := lo_lts hx hy h
theorem zS2 (h : K (.c (.lit (.bool (strLt s s' || decide (s = s'))))) hp) (hx : ρ x = .c (.lit (.string s)) := by exact rfl) (hy : ρ y = .c (.lit (.string s')) := by exact rfl) : LO P F ⟨d, .binOp .leq t x y t', ty, pos, aft, g⟩ ρ hp K := lo_les hx hy h
theorem zS3 (h : K (.c (.lit (.bool (!(strLt s s' || decide (s = s')))))) hp) (hx : ρ x = .c (.lit (.string s)) := by exact rfl) (hy : ρ y = .c (.lit (.string s')) := by exact rfl) : LO P F ⟨d, .binOp .gtr t x y t', ty, pos, aft, g⟩ ρ hp K := lo_gts hx hy h
theorem zS4 (h : K (.c (.lit (.bool (!strLt s s')))) hp) (hx : ρ x = .c (.lit (.string s)) := by exact rfl) (hy : ρ y = .c (.lit (.string s')) := by exact rfl) : LO P F ⟨d, .binOp .geq t x y t', ty, pos, aft, g⟩ ρ hp K := lo_ges hx hy h
theorem zS5 (h : K (.c (.lit (.bool (decide (s = s'))))) hp) (hx : ρ x = .c (.lit (.string s)) := by exact rfl) (hy : ρ y = .c (.lit (.string s')) := by exact rfl) : LO P F ⟨d, .binOp .eql t x y t', ty, pos, aft, g⟩ ρ hp K := lo_eqs hx hy h
theorem zS6 (h : K (.c (.lit (.bool (!decide (s = s'))))) hp) (hx : ρ x = .c (.lit (.string s)) := by exact rfl) (hy : ρ y = .c (.lit (.string s')) := by exact rfl) : LO P F ⟨d, .binOp .neq t x y t', ty, pos, aft, g⟩ ρ hp K := lo_nes hx hy h
end
section
variable {L : Tab} {σ : AS} {res : List ResultVar} {R : T → Prop} {ts : List T}
theorem zR (hR : R (outT ts)) (h : Outs L σ res ts := by repeat (first | exact outs_nil | apply outs_cons | (apply out_tmp (v := .c _); (focus exact rfl)) | (apply out_tmp (v := .own _ _); (focus exact rfl)) | (apply out_tmp (v := .agg _); (focus exact rfl)) | (apply out_tmp (v := .ptr _ _ _); (focus exact rfl)) | (apply out_tmp (v := .fn _ _); (focus exact rfl)) | (apply out_agg; (focus exact rfl); (focus exact rfl); (focus exact rfl); (focus exact rfl); (focus exact rfl); (focus exact rfl)) | (apply out_one; (focus exact rfl); (focus exact rfl); (focus exact rfl); (focus exact rfl); (focus exact rfl)) | exact rzs_nil | apply rzs_cons | exact rz_c | exact rz_nil rfl | apply rz_agg | exact rz_own rfl | apply rz_fn | exact rz_ptr rfl | apply rz_tup)) : Fin L res R .ret σ := fin_r h hR
theorem zQ (hR : R (outT ts)) (h : Outs L σ res ts := by repeat (first | exact outs_nil | apply outs_cons | (apply out_tmp (v := .c _); (focus exact rfl)) | (apply out_tmp (v := .own _ _); (focus exact rfl)) | (apply out_tmp (v := .agg _); (focus exact rfl)) | (apply out_tmp (v := .ptr _ _ _); (focus exact rfl)) | (apply out_tmp (v := .fn _ _); (focus exact rfl)) | (apply out_agg; (focus exact rfl); (focus exact rfl); (focus exact rfl); (focus exact rfl); (focus exact rfl); (focus exact rfl)) | (apply out_one; (focus exact rfl); (focus exact rfl); (focus exact rfl); (focus exact rfl); (focus exact rfl)) | exact rzs_nil | apply rzs_cons | exact rz_c | exact rz_nil rfl | apply rz_agg | exact rz_own rfl | apply rz_fn | exact rz_ptr rfl | apply rz_tup)) : Fin L res R .normal σ := fin_n h hR
end
end Go.Proofs.Ythgackidonocpaa
namespace Go.Proofs.Ythgackidonocpaa
open Go.RowKit
section
variable {P : Program} {F : Frm} {L : Tab} {d : Option Tmp} {ty : TypeId} {pos : String} {aft : Array Edge} {g : Option (Nat × Bool)} {ρ : Operand → AV} {hp : List Blk} {K : AV → List Blk → Prop}
theorem RTs.set {M : Mm} : ∀ {ts : List T} {xs : List Value} (k : Nat) {t : T} {x : Value}, RTs M ts xs → RT M t x → RTs M (ts.set k t) (xs.set k x)
  | [], _, _, _, _, h, _ => by simp only [RTs] at h; subst h; simp [RTs]
  | a :: ts, _, 0, _, _, h, ht => by
    simp only [RTs] at h
    obtain ⟨x, r, rfl, h1, h2⟩ := h
    simp only [List.set_cons_zero, RTs]
    exact ⟨_, _, rfl, ht, h2⟩
  | a :: ts, _, k + 1, _, _, h, ht => by
    simp only [RTs] at h
    obtain ⟨x, r, rfl, h1, h2⟩ := h
    simp only [List.set_cons_succ, RTs]
    exact ⟨_, _, rfl, h1, RTs.set k h2 ht⟩
theorem RTs.spl {M : Mm} : ∀ {vs cs : List T} {us xs : List Value} {k : Nat}, RTs M cs xs → RTs M vs us → RTs M (spl cs k vs) (Go.Proofs.Ythgackidonocpaa.spl xs k us)
  | [], _, _, _, _, h, h' => by simp only [RTs] at h'; subst h'; exact h
  | v :: vs, cs, _, xs, k, h, h' => by
    simp only [RTs] at h'
    obtain ⟨x, r, rfl, h1, h2⟩ := h'
    exact RTs.spl (vs := vs) (cs := cs.set k v) (us := r) (xs := xs.set k x) (k := k + 1) (RTs.set k h h1) h2
end
section
variable {P : Program} {F : Frm} {L : Tab}
def OutA (L : Tab) (σ : AS) : ResultVar → AV → Prop
  | .tmp i, v => σ.tmps i = v
  | .cell a ty, v => ∃ i b off tb cs ti, σ.tmps a = .ptr i b off ∧ σ.hp[i]? = some (.box b tb cs) ∧ L.look ty = some ti ∧
      (match ti.agg with | true => off + ti.size ≤ cs.length ∧ v = .agg ((cs.drop off).take ti.size) | false => cs[off]? = some v)
def OutsA (L : Tab) (σ : AS) : List ResultVar → List AV → Prop
  | [], vs => vs = []
  | r :: rs, vs => ∃ v vs', vs = v :: vs' ∧ OutA L σ r v ∧ OutsA L σ rs vs'
def outA : List AV → AV
  | [v] => v
  | vs => .tup vs
theorem outA_sound {M : Mm} {σ : AS} {a : Act} {w : World} (hL : TabOk P L) (hr : Rep F M σ a w) {r : ResultVar} {v : AV} (ho : OutA L σ r v) :
    ∃ u, ((match r with | .tmp t => pure (a.tmps.getD t undef) | .cell a' t => do loadVar t (← asAddr (a.tmps.getD a' undef))) : Sem Value).run P w = .ok u w ∧ RA M v u := by
  cases r with
  | tmp i => exact ⟨_, rfl, by rw [← (show σ.tmps i = v from ho)]; exact hr.tmps i⟩
  | cell x ty =>
    obtain ⟨i, b, off, tb, cs, ti, h1, h2, h3, h4⟩ := ho
    have hv := hr.tmps x
    rw [h1] at hv
    simp only [RA] at hv
    simp only [hv, asAddr, Sem.run_bind, Sem.run_pure, Result.andThen_ok]
    cases hag : ti.agg with
    | true =>
      rw [hag] at h4
      obtain ⟨u, hu, hra⟩ := load_box hL hr.heap h2 h3 hag h4.1
      exact ⟨u, hu, by rw [h4.2]; exact hra⟩
    | false =>
      rw [hag] at h4
      exact load_box1 hL hr.heap h2 h3 hag h4
theorem outsA_sound {M : Mm} {σ : AS} {a : Act} {w : World} (hL : TabOk P L) (hr : Rep F M σ a w) : ∀ {rs : List ResultVar} {vs : List AV}, OutsA L σ rs vs →
    ∃ us, (rs.mapM fun r => ((match r with | .tmp t => pure (a.tmps.getD t undef) | .cell a' t => do loadVar t (← asAddr (a.tmps.getD a' undef))) : Sem Value)).run P w = .ok us w ∧ RAs M vs us
  | [], vs, ho => by
    simp only [OutsA] at ho
    subst ho
    exact ⟨[], rfl, by simp only [RAs]⟩
  | r :: rs, vs, ho => by
    simp only [OutsA] at ho
    obtain ⟨v, vs', rfl, h1, h2⟩ := ho
    obtain ⟨u, hu, hu'⟩ := outA_sound hL hr h1
    obtain ⟨us, hus, hus'⟩ := outsA_sound hL hr h2
    refine ⟨u :: us, ?_, by simp only [RAs]; exact ⟨u, us, rfl, hu', hus'⟩⟩
    simp only [List.mapM_cons, Sem.run_bind, hu, Result.andThen_ok, hus, Sem.run_pure]
theorem resultsA_sound {M : Mm} {σ : AS} {a : Act} {w : World} (hL : TabOk P L) (hr : Rep F M σ a w) {fn : Func} {vs : List AV} (ho : OutsA L σ fn.results.toList vs) :
    ∃ u, (results fn a.tmps).run P w = .ok u w ∧ RA M (outA vs) u := by
  obtain ⟨us, hus, hr⟩ := outsA_sound hL hr ho
  have hlen := hr.len
  have hm : (fn.results.mapM fun r => ((match r with | .tmp t => pure (a.tmps.getD t undef) | .cell a' t => do loadVar t (← asAddr (a.tmps.getD a' undef))) : Sem Value)).run P w = .ok us.toArray w := by
    rw [Array.mapM_eq_mapM_toList]
    rw [Sem.run_map, hus]
    rfl
  refine ⟨if h : us.toArray.size = 1 then us.toArray[0] else .tuple us.toArray, ?_, ?_⟩
  · unfold results
    simp only [Sem.run_bind, Sem.run_pure]
    erw [hm]
    rfl
  · match vs, us, hlen, hr with
    | [], [], _, hr => simp only [outA, RA]; exact ⟨[], by simp, hr⟩
    | [t], [u], _, hr =>
      simp only [RAs] at hr
      obtain ⟨x, r, e, h1, _⟩ := hr
      injection e with e _
      subst e
      simpa [outA] using h1
    | t1 :: t2 :: ts, u1 :: u2 :: us, _, hr => simp only [outA, RA]; exact ⟨u1 :: u2 :: us, by simp, hr⟩
end
end Go.Proofs.Ythgackidonocpaa
namespace Go.Proofs.Ythgackidonocpaa
open Go.RowKit
section
variable {P : Program} {F : Frm} {ops : Array Oper} {md : Region.Mode} {N : Nat} {cls : Nat → Nat}
theorem WO.mono {K K' : (Nat → AV) → List Blk → Prop} : ∀ (r : List Nat) {τ : Nat → AV} {hp : List Blk}, (∀ τ hp, K τ hp → K' τ hp) → WO P F ops N cls K r τ hp → WO P F ops N cls K' r τ hp
  | [], τ, hp, h, hw => h τ hp hw
  | _ :: r, _, _, h, hw => opA_mono (fun _ _ h' => WO.mono r h h') hw
end
section
variable {P : Program} {F : Frm} {τ : Nat → AV} {hp : List Blk} {N : Nat} {Q : Exit → AS → Prop}
/-- every end of x is one of these states -/
theorem x_join {A : Type} {x y : Code} {Q' : Exit → AS → Prop} (W : List Nat) (slots : A → List (Nat × AV)) (hps : A → List Blk) (h2 : ∀ a, AC P F y Q ⟨atT τ W (slots a), hps a, N⟩) (h1 : AC P F x (thenA (fun σ => ∃ a, Wk F σ ⟨atT τ W (slots a), hps a, N⟩) Q') ⟨τ, hp, N⟩) : AC P F x (thenA (AC P F y Q) Q') ⟨τ, hp, N⟩ := by
  refine h1.mono fun e σ' h => ?_
  cases e <;> first | exact h | (obtain ⟨a, ha⟩ := h; exact ac_wk ha (h2 a))
end
end Go.Proofs.Ythgackidonocpaa
namespace Go.Proofs.Ythgackidonocpaa
open Go.RowKit
section
variable {P : Program} {F : Frm} {L : Tab} {d : Option Tmp} {ty : TypeId} {pos : String} {aft : Array Edge} {g : Option (Nat × Bool)} {ρ : Operand → AV} {hp : List Blk} {K : AV → List Blk → Prop}
theorem zSub {t t' : TypeId} {x y : Operand} {a b : Int} (h : K (.c (.lit (.int .i64 (a - b)))) hp) (hx : ρ x = .c (.lit (.int .i64 a)) := by exact rfl) (hy : ρ y = .c (.lit (.int .i64 b)) := by exact rfl) (hr : -9223372036854775808 ≤ a - b ∧ a - b ≤ 9223372036854775807 := by first | omega | (dsimp only at *; omega)) : LO P F ⟨d, .binOp .sub t x y t', ty, pos, aft, g⟩ ρ hp K :=
  lo_sub hx hy (IntWalk.i64_in _ hr) h
end
end Go.Proofs.Ythgackidonocpaa
namespace Go.Proofs.Ythgackidonocpaa
open Go.RowKit
def isPtr (P : Program) (t : TypeId) : Bool := match P.underlying t with | some (.pointer _) => true | _ => false
theorem isPtr_eq {P : Program} {t : TypeId} (h : isPtr P t = true) : ∃ e, P.underlying t = some (.pointer e) := by
  unfold isPtr at h
  split at h
  · exact ⟨_, by assumption⟩
  · cases h
theorem run_nil {P : Program} {t : TypeId} (h : isPtr P t = true) (a : Option Addr) (w : World) : (Op.equal t (.pointer a) (.pointer none)).run P w = .ok a.isNone w := by
  obtain ⟨e, he⟩ := isPtr_eq h
  rw [Op.equal, show Op.maxDepth = 9999 + 1 from rfl, Op.equalIn]
  simp only [Sem.run_bind, run_underlying he, Result.andThen_ok]
  cases a <;> rfl
theorem guard_ptr {P : Program} {op : BinOp} {t : TypeId} {x y : Operand} {a b : Option Addr} (w : World) : (eqGuard op t x y (.pointer a) (.pointer b)).run P w = .ok () w := by
  unfold eqGuard; simp
section
variable {P : Program} {F : Frm} {L : Tab} {d : Option Tmp} {ty : TypeId} {pos : String} {aft : Array Edge} {g : Option (Nat × Bool)} {ρ : Operand → AV} {hp : List Blk} {K : AV → List Blk → Prop}
theorem lo_nil {t t' : TypeId} {x y : Operand} {v : AV} {c : Bool} (hx : ρ x = v) (hv : ∀ M u, RA M v u → ∃ a : Option Addr, u = .pointer a ∧ a.isNone = c) (hy : ρ y = .c (.lit (.pointer none))) (hu : isPtr P t = true) (h : K (.c (.lit (.bool c))) hp) : LO P F ⟨d, .binOp .eql t x y t', ty, pos, aft, g⟩ ρ hp K := by
  refine LO.same (fun M e w he hh => ?_) h
  have h1 := he x (by first | (simp [Op.operands]; done) | simp [Op.operands, Call.operands])
  rw [hx] at h1
  obtain ⟨a, ha, hc⟩ := hv M _ h1
  have h2 := he y (by first | (simp [Op.operands]; done) | simp [Op.operands, Call.operands])
  rw [hy] at h2
  simp only [RA, RT] at h2
  refine ⟨.bool c, ?_, by simp only [RA, RT]⟩
  simp [execOp, ha, h2, guard_ptr, binOp, run_nil hu, hc]
theorem lo_nnil {t t' : TypeId} {x y : Operand} {v : AV} {c : Bool} (hx : ρ x = v) (hv : ∀ M u, RA M v u → ∃ a : Option Addr, u = .pointer a ∧ a.isNone = c) (hy : ρ y = .c (.lit (.pointer none))) (hu : isPtr P t = true) (h : K (.c (.lit (.bool (!c)))) hp) : LO P F ⟨d, .binOp .neq t x y t', ty, pos, aft, g⟩ ρ hp K := by
  refine LO.same (fun M e w he hh => ?_) h
  have h1 := he x (by first | (simp [Op.operands]; done) | simp [Op.operands, Call.operands])
  rw [hx] at h1
  obtain ⟨a, ha, hc⟩ := hv M _ h1
  have h2 := he y (by first | (simp [Op.operands]; done) | simp [Op.operands, Call.operands])
  rw [hy] at h2
  simp only [RA, RT] at h2
  refine ⟨.bool (!c), ?_, by simp only [RA, RT]⟩
  simp [execOp, ha, h2, guard_ptr, binOp, run_nil hu, hc]
theorem pin_some (cs : List T) (off : Nat) (M : Mm) (u : Value) (h : RA M (.c (.pin cs off)) u) : ∃ a : Option Addr, u = .pointer a ∧ a.isNone = false := by
  simp only [RA, RT] at h
  obtain ⟨ad, xs, rfl, _⟩ := h
  exact ⟨_, rfl, rfl⟩
theorem nil_none (M : Mm) (u : Value) (h : RA M (.c (.lit (.pointer none))) u) : ∃ a : Option Addr, u = .pointer a ∧ a.isNone = true := by
  simp only [RA, RT] at h
  exact ⟨_, h, rfl⟩
theorem ptr_some (i b off : Nat) (M : Mm) (u : Value) (h : RA M (.ptr i b off) u) : ∃ a : Option Addr, u = .pointer a ∧ a.isNone = false := by
  simp only [RA] at h
  exact ⟨_, h, rfl⟩
variable {t t' : TypeId} {x y : Operand} {cs : List T} {off i b : Nat}
theorem zQ1 (h : K (.c (.lit (.bool false))) hp) (hx : ρ x = .c (.pin cs off) := by exact rfl) (hy : ρ y = .c (.lit (.pointer none)) := by exact rfl) (hu : isPtr P t = true := by kernel_rfl) : LO P F ⟨d, .binOp .eql t x y t', ty, pos, aft, g⟩ ρ hp K := lo_nil hx (pin_some cs off) hy hu h
theorem zQ2 (h : K (.c (.lit (.bool true))) hp) (hx : ρ x = .c (.lit (.pointer none)) := by exact rfl) (hy : ρ y = .c (.lit (.pointer none)) := by exact rfl) (hu : isPtr P t = true := by kernel_rfl) : LO P F ⟨d, .binOp .eql t x y t', ty, pos, aft, g⟩ ρ hp K := lo_nil hx nil_none hy hu h
theorem zQ3 (h : K (.c (.lit (.bool false))) hp) (hx : ρ x = .ptr i b off := by exact rfl) (hy : ρ y = .c (.lit (.pointer none)) := by exact rfl) (hu : isPtr P t = true := by kernel_rfl) : LO P F ⟨d, .binOp .eql t x y t', ty, pos, aft, g⟩ ρ hp K := lo_nil hx (ptr_some i b off) hy hu h
theorem zQ4 (h : K (.c (.lit (.bool true))) hp) (hx : ρ x = .c (.pin cs off) := by exact rfl) (hy : ρ y = .c (.lit (.pointer none)) := by exact rfl) (hu : isPtr P t = true := by kernel_rfl) : LO P F ⟨d, .binOp .neq t x y t', ty, pos, aft, g⟩ ρ hp K := lo_nnil hx (pin_some cs off) hy hu h
theorem zQ5 (h : K (.c (.lit (.bool false))) hp) (hx : ρ x = .c (.lit (.pointer none)) := by exact rfl) (hy : ρ y = .c (.lit (.pointer none)) := by exact rfl) (hu : isPtr P t = true := by kernel_rfl) : LO P F ⟨d, .binOp .neq t x y t', ty, pos, aft, g⟩ ρ hp K := lo_nnil hx nil_none hy hu h
theorem zQ6 (h : K (.c (.lit (.bool true))) hp) (hx : ρ x = .ptr i b off := by exact rfl) (hy : ρ y = .c (.lit (.pointer none)) := by exact rfl) (hu : isPtr P t = true := by kernel_rfl) : LO P F ⟨d, .binOp .neq t x y t', ty, pos, aft, g⟩ ρ hp K := lo_nnil hx (ptr_some i b off) hy hu h
theorem lo_nck {v : AV} (hx : ρ x = v) (hv : ∀ M u, RA M v u → ∃ a : Option Addr, u = .pointer a ∧ a.isNone = false) (h : K v hp) : LO P F ⟨d, .nilCheck x, ty, pos, aft, g⟩ ρ hp K := by
  refine LO.same (fun M e w he hh => ?_) h
  have h1 := he x (by first | (simp [Op.operands]; done) | simp [Op.operands, Call.operands])
  rw [hx] at h1
  obtain ⟨a, ha, hc⟩ := hv M _ h1
  cases a with
  | none => cases hc
  | some a => exact ⟨.pointer (some a), by simp [execOp, ha], by rw [← ha]; exact h1⟩
theorem zK1 (h : K (.c (.pin cs off)) hp) (hx : ρ x = .c (.pin cs off) := by exact rfl) : LO P F ⟨d, .nilCheck x, ty, pos, aft, g⟩ ρ hp K := lo_nck hx (pin_some cs off) h
theorem zK2 (h : K (.ptr i b off) hp) (hx : ρ x = .ptr i b off := by exact rfl) : LO P F ⟨d, .nilCheck x, ty, pos, aft, g⟩ ρ hp K := lo_nck hx (ptr_some i b off) h
end
end Go.Proofs.Ythgackidonocpaa
namespace Go.Proofs.Ythgackidonocpaa
open Go.RowKit
section
variable {P : Program} {F : Frm} {L : Tab} {d : Option Tmp} {ty : TypeId} {pos : String} {aft : Array Edge} {g : Option (Nat × Bool)} {ρ : Operand → AV} {hp : List Blk} {K : AV → List Blk → Prop}
theorem lo_box_frz {t : TypeId} {x : Operand} {v : AV} {ts : List T} (hv : ρ x = v) (h1 : allOne (cellsA v) = true) (hz : Rzs [] (cellsA v) ts) (h : K (.c (.pin ts 0)) hp) : LO P F ⟨d, .box t x, ty, pos, aft, g⟩ ρ hp K := by
  refine ⟨fun M e w he hh => ?_⟩
  have hx := he x (by first | (simp [Op.operands]; done) | simp [Op.operands, Call.operands])
  rw [hv] at hx
  obtain ⟨hc, ho⟩ := cells_of hx h1
  have : (execOp e ⟨d, .box t x, ty, pos, aft, g⟩).run P w = .ok (.value (.pointer (some ⟨w.heap.size, 0, none⟩))) (w.alloc (.cells (e x).cells t)) := by
    simp [execOp, Instr.box, newVar, newRow]
  rw [this]
  have hyt := cls_sound _ _ _ hz hc
  have hb : Below w.heap.size w (w.alloc (.cells (e x).cells t)) := (Below.refl _ _).alloc (Nat.le_refl _) _
  have hm0 := hh.mem.below hb
  have hM := frz_ext (M := M) w.heap.size (w.alloc (.cells (e x).cells t))
  refine ⟨frz M w.heap.size (w.alloc (.cells (e x).cells t)), _, hp, h, (hM.low hh.frm.size), hh.below hb hM (frz_ok hm0 _), ?_⟩
  simp only [RA, RT]
  refine ⟨⟨w.heap.size, 0, none⟩, (e x).cells.toList, by rw [box_add], fun j u hj => ?_, RTs.mono hM.sub _ _ hyt⟩
  have hadd : (⟨w.heap.size, 0, none⟩ : Addr).add j = ⟨w.heap.size, j, none⟩ := by rw [box_add]; simp
  rw [hadd]
  refine frz_new (mem_fresh hh.mem (Nat.le_refl _)) (Nat.le_refl _) ?_ (ho u (List.mem_of_getElem? hj))
  rw [World.cell?_alloc_new]
  simpa using hj
theorem zBf {t : TypeId} {x : Operand} {v : AV} {cs : List AV} {ts : List T} (h : K (.c (.pin ts 0)) hp) (hv : fc (ρ x) = some v := by exact rfl) (hc : evl (cellsA v) = some cs := by exact rfl) (h1 : allOne cs = true := by first | exact rfl | assumption) (hz : Rzs [] cs ts := by repeat (first | exact rzs_nil | apply rzs_cons | exact rz_c | exact rz_nil rfl | apply rz_agg | apply rz_fn | apply rz_tup)) : LO P F ⟨d, .box t x, ty, pos, aft, g⟩ ρ hp K :=
  lo_box_frz (fc_eq hv) (by rw [← evl_eq hc]; exact h1) (by rw [← evl_eq hc]; exact hz) h
end
end Go.Proofs.Ythgackidonocpaa
