/-
  Texts of this proof, part 1: Lib Mem Glob Own Ab1 Ab2.
-/
import Derived.Below
import Derived.ChangeSame
import Derived.Deep.AppendLies
import Derived.Deep.AppendSrc
import Derived.Deep.Draws
import Derived.Deep.LoopGhost
import Derived.Laws.BitsAllLaws
import Derived.Laws.BitsLemmas
import Derived.Laws.BytesArg
import Derived.Laws.CopyRow
import Derived.Laws.IdiomRangeMap
import Derived.Laws.IdiomStrings
import Derived.Laws.OwnMore
import Derived.Laws.Strings2
import Derived.Lib.Hide
import Derived.Maps.AppendAt
import Derived.OwnWalk
import Derived.RegionTactic
import Derived.Shelf.Bits.Mul64
import Derived.Shelf.LaysM
import Derived.Shelf.Strings.Builder1
import Derived.Shelf.Strings.Builder2
import Derived.Shelf.Strings.Builder2Cap
import Derived.Shelf.Strings.BuilderF
import Derived.Shelf.Strings.BuilderK
import Derived.Shelf.Strings.Prefix
import Derived.Shelf.Strings.Repeat
import Derived.Shelf.Strings.Search1
import Derived.Shelf.Strings.Search2
import Derived.Shelf.Strings.Search3
import Derived.Shelf.Strings.Shaped
import Derived.Test.YtgjfiedepfjdcaaProg
import Derived.WalkKit
import Derived.WalkLawsBesides
import Derived.WalkSpells
import Derived.WideKeyEntry
namespace Go.Proofs.Ytgjfiedepfjdcaa
open Go.Shelf
def lib_lays144_ren : Go.Shelf.Ren := ⟨fun | 144 => 12 | 143 => 22 | 219 => 30 | 217 => 32 | 225 => 33 | 224 => 34 | 267 => 35 | 266 => 36 | 314 => 37 | n => n, fun | 9 => 9 | 4 => 4 | 3 => 3 | 5 => 5 | 46 => 56 | 146 => 71 | 51 => 70 | n => n, fun | 1 => 0 | n => n⟩
theorem lib_lays144 : Go.Proofs.Lays.n144 Try.prog lib_lays144_ren := {
  mixed := by kernel_rfl
  f143 := Try.func22.trans (congrArg some (by kernel_rfl))
  f144 := Try.func12.trans (congrArg some (by kernel_rfl))
  f217 := Try.func32.trans (congrArg some (by kernel_rfl))
  f219 := Try.func30.trans (congrArg some (by kernel_rfl))
  f224 := Try.func34.trans (congrArg some (by kernel_rfl))
  f225 := Try.func33.trans (congrArg some (by kernel_rfl))
  f266 := Try.func36.trans (congrArg some (by kernel_rfl))
  f267 := Try.func35.trans (congrArg some (by kernel_rfl))
  f314 := Try.func37.trans (congrArg some (by kernel_rfl))
  t3 := Try.underlying3
  a3 := Try.isAgg3
  z3 := Try.sizeOf3
  v3 := Try.zeroValue3
  t4 := Try.underlying4
  a4 := Try.isAgg4
  z4 := Try.sizeOf4
  v4 := Try.zeroValue4
  t5 := Try.underlying5
  a5 := Try.isAgg5
  z5 := Try.sizeOf5
  v5 := Try.zeroValue5
  t9 := Try.underlying9
  a9 := Try.isAgg9
  z9 := Try.sizeOf9
  v9 := Try.zeroValue9
  t46 := Try.underlying56
  a46 := Try.isAgg56
  z46 := Try.sizeOf56
  v46 := Try.zeroValue56
  t51 := Try.underlying70
  a51 := Try.isAgg70
  z51 := Try.sizeOf70
  v51 := Try.zeroValue70
  t146 := Try.underlying71
  a146 := Try.isAgg71
  z146 := Try.sizeOf71
  v146 := Try.zeroValue71
  g1 := by kernel_rfl }
open Go.RowKit Go.Lib in
theorem lib_strings_Contains_one (s : ByteArray) (c : UInt8) (w : World) :
    Calls Try.prog 12 #[.string s, .string ⟨#[c]⟩] w fun e w' => e = .returned (.bool (decide (0 ≤ Lib.indexByte s.data.toList c))) ∧ w' = w := Any.strings_Contains_one lib_lays144 s c w
def lib_lays105_ren : Go.Shelf.Ren := ⟨fun | 105 => 10 | 212 => 18 | 99 => 19 | 165 => 20 | 166 => 9 | 170 => 21 | 169 => 11 | 263 => 26 | 264 => 27 | 206 => 28 | 240 => 17 | 241 => 29 | 276 => 25 | 277 => 31 | n => n, fun | 9 => 9 | 3 => 3 | 4 => 4 | 20 => 20 | 0 => 0 | 46 => 56 | 109 => 57 | 5 => 5 | 72 => 35 | 76 => 41 | 51 => 70 | 146 => 71 | 53 => 73 | 148 => 74 | 70 => 32 | 37 => 33 | 75 => 40 | 127 => 61 | 164 => 68 | 80 => 44 | n => n, fun | n => n⟩
theorem lib_lays105 : Go.Proofs.Lays.n105 Try.prog lib_lays105_ren := {
  mixed := by kernel_rfl
  f99 := Try.func19.trans (congrArg some (by kernel_rfl))
  f105 := Try.func10.trans (congrArg some (by kernel_rfl))
  f165 := Try.func20.trans (congrArg some (by kernel_rfl))
  f166 := Try.func9.trans (congrArg some (by kernel_rfl))
  f169 := Try.func11.trans (congrArg some (by kernel_rfl))
  f170 := Try.func21.trans (congrArg some (by kernel_rfl))
  f206 := Try.func28.trans (congrArg some (by kernel_rfl))
  f212 := Try.func18.trans (congrArg some (by kernel_rfl))
  f240 := Try.func17.trans (congrArg some (by kernel_rfl))
  f241 := Try.func29.trans (congrArg some (by kernel_rfl))
  f263 := Try.func26.trans (congrArg some (by kernel_rfl))
  f264 := Try.func27.trans (congrArg some (by kernel_rfl))
  f276 := Try.func25.trans (congrArg some (by kernel_rfl))
  f277 := Try.func31.trans (congrArg some (by kernel_rfl))
  t0 := Try.underlying0
  a0 := Try.isAgg0
  z0 := Try.sizeOf0
  v0 := Try.zeroValue0
  t3 := Try.underlying3
  a3 := Try.isAgg3
  z3 := Try.sizeOf3
  v3 := Try.zeroValue3
  t4 := Try.underlying4
  a4 := Try.isAgg4
  z4 := Try.sizeOf4
  v4 := Try.zeroValue4
  t5 := Try.underlying5
  a5 := Try.isAgg5
  z5 := Try.sizeOf5
  v5 := Try.zeroValue5
  t9 := Try.underlying9
  a9 := Try.isAgg9
  z9 := Try.sizeOf9
  v9 := Try.zeroValue9
  t20 := Try.underlying20
  a20 := Try.isAgg20
  z20 := Try.sizeOf20
  v20 := Try.zeroValue20
  t37 := Try.underlying33
  a37 := Try.isAgg33
  z37 := Try.sizeOf33
  v37 := Try.zeroValue33
  t46 := Try.underlying56
  a46 := Try.isAgg56
  z46 := Try.sizeOf56
  v46 := Try.zeroValue56
  t51 := Try.underlying70
  a51 := Try.isAgg70
  z51 := Try.sizeOf70
  v51 := Try.zeroValue70
  t53 := Try.underlying73
  a53 := Try.isAgg73
  z53 := Try.sizeOf73
  v53 := Try.zeroValue73
  t70 := Try.underlying32
  a70 := Try.isAgg32
  z70 := Try.sizeOf32
  v70 := Try.zeroValue32
  t72 := Try.underlying35
  a72 := Try.isAgg35
  z72 := Try.sizeOf35
  v72 := Try.zeroValue35
  t75 := Try.underlying40
  a75 := Try.isAgg40
  z75 := Try.sizeOf40
  v75 := Try.zeroValue40
  t76 := Try.underlying41
  a76 := Try.isAgg41
  z76 := Try.sizeOf41
  v76 := Try.zeroValue41
  t109 := Try.underlying57
  a109 := Try.isAgg57
  z109 := Try.sizeOf57
  v109 := Try.zeroValue57
  t127 := Try.underlying61
  a127 := Try.isAgg61
  z127 := Try.sizeOf61
  v127 := Try.zeroValue61
  t146 := Try.underlying71
  a146 := Try.isAgg71
  z146 := Try.sizeOf71
  v146 := Try.zeroValue71
  t148 := Try.underlying74
  a148 := Try.isAgg74
  z148 := Try.sizeOf74
  v148 := Try.zeroValue74
  t164 := Try.underlying68
  a164 := Try.isAgg68
  z164 := Try.sizeOf68
  v164 := Try.zeroValue68 }
theorem lib_Builder_Extra_105 : Builder.Extra Try.prog lib_lays105_ren := {
  sizeBuilder := by kernel_rfl
  liesBuilder := by kernel_rfl
  t5 := Try.underlying5
  a5 := Try.isAgg5
  z5 := Try.sizeOf5
  v5 := Try.zeroValue5
  infoByte := by kernel_rfl
  cellsByte := by kernel_rfl
  sizeByte := by kernel_rfl
  neB5 := by decide }
open Go.RowKit Go.Lib in
theorem lib_strings_Repeat (s : ByteArray) (c : Nat) (w : World) (hc : c ≤ 9223372036854775807) (hlen : s.size * c ≤ 140737488355328) :
    Calls Try.prog 10 #[.string s, .int .i64 c] w fun e w' => e = .returned (.string ⟨(Lib.repeatL s.data.toList c).toArray⟩) ∧ Below w.heap.size w w' := Any.strings_Repeat lib_lays105 lib_Builder_Extra_105 s c w hc hlen
end Go.Proofs.Ytgjfiedepfjdcaa
namespace Go.Proofs.Ytgjfiedepfjdcaa
open Go.RowKit
theorem add_block (a : Addr) (n : Nat) : (a.add n).block = a.block := by unfold Addr.add; split <;> rfl
theorem add_add' (a : Addr) (i j : Nat) : (a.add i).add j = a.add (i + j) := by
  unfold Addr.add
  by_cases hi : i = 0 <;> by_cases hj : j = 0 <;> simp [hi, hj, Nat.add_assoc]
theorem add_zero' (a : Addr) : a.add 0 = a := by simp [Addr.add]
/-- The slice value '.slice A n c' holds the cells xs (sz cells an element) and lies below block B. -/
def Rd (w : World) (B sz : Nat) (A : Option Addr) (n : Nat) (xs : List Value) : Prop :=
  xs.length = n * sz ∧ (0 < n → ∃ ad, A = some ad ∧ ad.block < B ∧ ∀ j u, xs[j]? = some u → w.cell? (ad.add j) = some u)
section
variable {w w' : World} {B B' sz n : Nat} {A : Option Addr} {xs : List Value}
theorem Rd.nil : Rd w B sz A 0 [] := ⟨by simp, fun h => absurd h (by omega)⟩
theorem Rd.len (h : Rd w B 1 A n xs) : xs.length = n := by simpa using h.1
theorem Rd.get {k : Nat} (h : Rd w B 1 A n xs) (hk : k < n) : ∃ ad, A = some ad ∧ ad.block < B ∧ w.cell? (ad.add k) = some (xs[k]'(by rw [h.len]; exact hk)) := by
  obtain ⟨ad, e, hb, hc⟩ := h.2 (by omega)
  exact ⟨ad, e, hb, hc k _ (List.getElem?_eq_getElem _)⟩
theorem Rd.keep (h : Rd w B sz A n xs) (hk : ∀ p : Addr, p.block < B → w'.cell? p = w.cell? p) : Rd w' B sz A n xs := by
  refine ⟨h.1, fun hn => ?_⟩
  obtain ⟨ad, e, hb, hc⟩ := h.2 hn
  exact ⟨ad, e, hb, fun j u hu => (hk _ (by rw [add_block]; exact hb)).trans (hc j u hu)⟩
theorem Rd.up (h : Rd w B sz A n xs) (hB : B ≤ B') : Rd w B' sz A n xs := by
  refine ⟨h.1, fun hn => ?_⟩
  obtain ⟨ad, e, hb, hc⟩ := h.2 hn
  exact ⟨ad, e, by omega, hc⟩
theorem Rd.below (h : Rd w B sz A n xs) (hb : Below B w w') : Rd w' B sz A n xs := h.keep fun _ hp => hb.cell hp
theorem Rd.take (h : Rd w B sz A n xs) {k : Nat} (hk : k ≤ n) : Rd w B sz A k (xs.take (k * sz)) := by
  refine ⟨by rw [List.length_take, h.1]; exact Nat.min_eq_left (Nat.mul_le_mul_right _ hk), fun hn => ?_⟩
  obtain ⟨ad, e, hb, hc⟩ := h.2 (by omega)
  refine ⟨ad, e, hb, fun j u hu => hc j u ?_⟩
  rw [List.getElem?_take] at hu
  split at hu
  · exact hu
  · cases hu
theorem Rd.drop (h : Rd w B sz A n xs) {k cap : Nat} (hk : k ≤ n) (hc : n ≤ cap) :
    Rd w B sz (if cap = k then A else A.map (·.add (k * sz))) (n - k) (xs.drop (k * sz)) := by
  refine ⟨by rw [List.length_drop, h.1, Nat.sub_mul], fun hn => ?_⟩
  obtain ⟨ad, rfl, hb, hcell⟩ := h.2 (by omega)
  rw [if_neg (by omega)]
  refine ⟨ad.add (k * sz), rfl, by rw [add_block]; exact hb, fun j u hu => ?_⟩
  rw [add_add']
  exact hcell _ u (by rw [← hu, List.getElem?_drop])
theorem Rd.of_own {base : Nat} {e : TypeId} {c : Nat} (h : w.ownsRow base e sz (.slice A n c) n xs) : Rd w w.heap.size sz A n xs := by
  refine ⟨h.1, fun hn => ?_⟩
  rcases h.2 with ⟨_, h0⟩ | ⟨g, cap, cur, hv, _, hg, _⟩
  · omega
  · have hA : A = some ⟨g, 0, none⟩ := by injection hv
    subst hA
    exact ⟨_, rfl, (Array.getElem?_eq_some_iff.1 hg).1, h.cells (g := g) rfl⟩
end
/-- a new block just made, asq a slice of all its cells (elements of one cell) -/
theorem Rd.fresh (w : World) (t : TypeId) (cs : Array Value) : Rd (w.alloc (.cells cs t)) (w.heap.size + 1) 1 (some ⟨w.heap.size, 0, none⟩) cs.size cs.toList := by
  refine ⟨by simp, fun _ => ⟨_, rfl, by simp, fun j u hu => ?_⟩⟩
  have hadd : (⟨w.heap.size, 0, none⟩ : Addr).add j = ⟨w.heap.size, j, none⟩ := by unfold Addr.add; split <;> simp_all
  rw [hadd, cell_of_row _ w.heap.size j cs t (0, 0) (heap_alloc_new w _)]
  simpa using hu
theorem Rd.box (w : World) (t : TypeId) (x : Value) : Rd (w.alloc (.cells #[x] t)) (w.heap.size + 1) 1 (some ⟨w.heap.size, 0, none⟩) 1 [x] := Rd.fresh w t #[x]
theorem own_shape {w : World} {base sz n : Nat} {e : TypeId} {v : Value} {xs : List Value} (h : w.ownsRow base e sz v n xs) : ∃ A c, v = .slice A n c ∧ n ≤ c ∧ c ≤ maxLen := by
  rcases h.2 with ⟨rfl, rfl⟩ | ⟨g, cap, cur, rfl, _, _, h1, h2, _⟩
  · exact ⟨none, 0, rfl, Nat.le_refl _, Nat.zero_le _⟩
  · exact ⟨_, _, rfl, h1, h2⟩
/-- each of the values is a row of its own -/
def OwnAll (w : World) (base : Nat) (e : TypeId) : List Value → List (List Value) → Prop
  | [], [] => True
  | p :: ps, x :: xs => w.ownsRow base e 1 p x.length x ∧ OwnAll w base e ps xs
  | _, _ => False
theorem OwnAll.len {w : World} {base : Nat} {e : TypeId} : ∀ {ps : List Value} {xs : List (List Value)}, OwnAll w base e ps xs → ps.length = xs.length
  | [], [], _ => rfl
  | _ :: _, _ :: _, h => by simp [OwnAll.len h.2]
  | [], _ :: _, h => h.elim
  | _ :: _, [], h => h.elim
theorem OwnAll.map {w w' : World} {base base' : Nat} {e : TypeId} (f : ∀ p (x : List Value), w.ownsRow base e 1 p x.length x → w'.ownsRow base' e 1 p x.length x) : ∀ {ps : List Value} {xs : List (List Value)}, OwnAll w base e ps xs → OwnAll w' base' e ps xs
  | [], [], _ => trivial
  | _ :: _, _ :: _, h => ⟨f _ _ h.1, OwnAll.map f h.2⟩
  | [], _ :: _, h => h.elim
  | _ :: _, [], h => h.elim
theorem OwnAll.get {w : World} {base : Nat} {e : TypeId} : ∀ {ps : List Value} {xs : List (List Value)}, OwnAll w base e ps xs → ∀ k (hp : k < ps.length) (hx : k < xs.length), w.ownsRow base e 1 ps[k] (xs[k]).length xs[k]
  | [], _, _, _, hp, _ => by simp at hp
  | _ :: _, [], h, _, _, _ => h.elim
  | _ :: _, _ :: _, h, 0, _, _ => h.1
  | _ :: _, _ :: _, h, k + 1, hp, hx => by simpa using OwnAll.get h.2 k (by simpa using hp) (by simpa using hx)
def bv (c : UInt8) : Value := .int .u8 (c.toNat : Int)
def bvs (l : List UInt8) : List Value := l.map bv
theorem bvs_len (l : List UInt8) : (bvs l).length = l.length := by simp [bvs]
theorem bvs_one (l : List UInt8) : ∀ u ∈ bvs l, u.oneCell' = true := by
  intro u hu
  simp only [bvs, List.mem_map] at hu
  obtain ⟨c, _, rfl⟩ := hu
  rfl
/-- each of the values is a slice that reads asq the bytes -/
def RdAll (w : World) (B : Nat) (vs : List Value) (xss : List (List UInt8)) : Prop :=
  vs.length = xss.length ∧ ∀ k (h : k < xss.length), ∃ A c, vs[k]? = some (.slice A (xss[k]).length c) ∧ (xss[k]).length ≤ c ∧ Rd w B 1 A (xss[k]).length (bvs xss[k])
theorem RdAll.keep {w w' : World} {B : Nat} {vs : List Value} {xss : List (List UInt8)} (h : RdAll w B vs xss) (hk : ∀ p : Addr, p.block < B → w'.cell? p = w.cell? p) : RdAll w' B vs xss := by
  refine ⟨h.1, fun k hk' => ?_⟩
  obtain ⟨A, c, h1, h2, h3⟩ := h.2 k hk'
  exact ⟨A, c, h1, h2, h3.keep hk⟩
theorem RdAll.below {w w' : World} {B : Nat} {vs : List Value} {xss : List (List UInt8)} (h : RdAll w B vs xss) (hb : Below B w w') : RdAll w' B vs xss := h.keep fun _ hp => hb.cell hp
theorem RdAll.up {w : World} {B B' : Nat} {vs : List Value} {xss : List (List UInt8)} (h : RdAll w B vs xss) (hB : B ≤ B') : RdAll w B' vs xss := by
  refine ⟨h.1, fun k hk' => ?_⟩
  obtain ⟨A, c, h1, h2, h3⟩ := h.2 k hk'
  exact ⟨A, c, h1, h2, h3.up hB⟩
theorem OwnAll.reads {w : World} {base : Nat} {e : TypeId} {ps : List Value} {xss : List (List UInt8)} (h : OwnAll w base e ps (xss.map bvs)) : RdAll w w.heap.size ps xss := by
  have hl := h.len
  rw [List.length_map] at hl
  refine ⟨hl, fun k hk => ?_⟩
  have hg := h.get k (by omega) (by simpa using hk)
  simp only [List.getElem_map, bvs_len] at hg
  obtain ⟨A, c, e1, h1, _⟩ := own_shape hg
  rw [e1] at hg
  exact ⟨A, c, by rw [List.getElem?_eq_getElem (by omega), e1], h1, Rd.of_own hg⟩
end Go.Proofs.Ytgjfiedepfjdcaa
namespace Go.Proofs.Ytgjfiedepfjdcaa
abbrev Mm := Addr → Option Value
/-- a variable's number, what its cells hold -/
def globTab : List (Nat × Array Value) := []
def Glob (w : World) : Prop := ∀ x ∈ globTab, ∃ t fr, w.heap[x.1]? = some (.cells x.2 t fr)
theorem glob_lt {w : World} (h : Glob w) {x} (hx : x ∈ globTab) : x.1 < w.heap.size := let ⟨_, _, e⟩ := h x hx; (Array.getElem?_eq_some_iff.1 e).1
theorem glob_keep {w w' : World} (h : Glob w) (hk : ∀ x ∈ globTab, x.1 < w.heap.size → w'.heap[x.1]? = w.heap[x.1]?) : Glob w' := fun x hx => let ⟨t, fr, e⟩ := h x hx; ⟨t, fr, by rw [hk x hx (glob_lt h hx)]; exact e⟩
end Go.Proofs.Ytgjfiedepfjdcaa
namespace Go.Proofs.Ytgjfiedepfjdcaa
open Go.RowKit
def OwnsO (w : World) (e : TypeId) (size : Nat) (v : Value) (n : Nat) (xs : List Value) : Prop :=
  xs.length = n * size ∧
  ((v = .slice none 0 0 ∧ n = 0) ∨
   ∃ g off cap cur, v = .slice (some ⟨g, off, none⟩) n cap ∧ w.heap[g]? = some (.cells cur e (0, 0)) ∧ n ≤ cap ∧ cap ≤ maxLen ∧ off + cap * size ≤ cur.size ∧ (cur.toList.drop off).take (n * size) = xs)
section
variable {w : World} {e : TypeId} {sz n : Nat} {v : Value} {xs : List Value}
theorem ownsO_nil (w : World) (e : TypeId) (sz : Nat) : OwnsO w e sz (.slice none 0 0) 0 [] := ⟨by simp, .inl ⟨rfl, rfl⟩⟩
theorem ownsO_of {base : Nat} (h : w.ownsRow base e sz v n xs) : OwnsO w e sz v n xs := by
  refine ⟨h.1, ?_⟩
  rcases h.2 with h | ⟨g, cap, cur, h1, _, h3, h4, h5, h6, h7⟩
  · exact .inl h
  · exact .inr ⟨g, 0, cap, cur, h1, h3, h4, h5, by omega, by simpa using h7⟩
theorem ownO_shape (h : OwnsO w e sz v n xs) : ∃ A c, v = .slice A n c ∧ n ≤ c ∧ c ≤ maxLen := by
  rcases h.2 with ⟨rfl, rfl⟩ | ⟨g, off, cap, cur, rfl, _, h1, h2, _⟩
  · exact ⟨none, 0, rfl, Nat.le_refl _, Nat.zero_le _⟩
  · exact ⟨_, _, rfl, h1, h2⟩
theorem offs_add (g off j : Nat) : (⟨g, off, none⟩ : Addr).add j = ⟨g, off + j, none⟩ := by unfold Addr.add; split <;> simp_all
theorem OwnsO.cells {ad : Addr} {m c : Nat} (h : OwnsO w e sz (.slice (some ad) m c) n xs) : ∀ j u, xs[j]? = some u → w.cell? (ad.add j) = some u := by
  rcases h.2 with ⟨h0, _⟩ | ⟨g, off, cap, cur, hv, hg, hnc, hcm, hcs, htk⟩
  · cases h0
  · have hA : ad = ⟨g, off, none⟩ := by injection hv with h; injection h
    subst hA
    intro j u hj
    rw [offs_add, cell_of_row w g (off + j) cur e (0, 0) hg]
    rw [← htk, List.getElem?_take] at hj
    split at hj
    · rw [List.getElem?_drop] at hj; simpa using hj
    · cases hj
theorem OwnsO.block {ad : Addr} {m c : Nat} (h : OwnsO w e sz (.slice (some ad) m c) n xs) : ad.block < w.heap.size := by
  rcases h.2 with ⟨h0, _⟩ | ⟨g, off, cap, cur, hv, hg, _⟩
  · cases h0
  · have hA : ad = ⟨g, off, none⟩ := by injection hv with h; injection h
    subst hA
    exact (Array.getElem?_eq_some_iff.1 hg).1
theorem OwnsO.some_ {A : Option Addr} {m c : Nat} (h : OwnsO w e sz (.slice A m c) n xs) (h0 : 0 < n) : ∃ ad, A = some ad := by
  rcases h.2 with ⟨_, h1⟩ | ⟨g, off, cap, cur, hv, _⟩
  · omega
  · exact ⟨⟨g, off, none⟩, by injection hv⟩
theorem OwnsO.take {A : Option Addr} {c k : Nat} (h : OwnsO w e sz (.slice A n c) n xs) (hk : k ≤ n) : OwnsO w e sz (.slice A k c) k (xs.take (k * sz)) := by
  have hle : k * sz ≤ n * sz := Nat.mul_le_mul_right _ hk
  refine ⟨by rw [List.length_take, h.1]; exact Nat.min_eq_left hle, ?_⟩
  rcases h.2 with ⟨hv, h0⟩ | ⟨g, off, cap, cur, hv, hg, hnc, hcm, hcs, htk⟩
  · injection hv with h1 _ h2
    subst h1; subst h2
    obtain rfl : k = 0 := by omega
    exact .inl ⟨rfl, rfl⟩
  · injection hv with h1 _ h2
    subst h1; subst h2
    exact .inr ⟨g, off, c, cur, rfl, hg, by omega, hcm, hcs, by rw [← htk, List.take_take, Nat.min_eq_left hle]⟩
theorem OwnsO.drop {A : Option Addr} {c k : Nat} (h : OwnsO w e sz (.slice A n c) n xs) (hk : k ≤ n) : OwnsO w e sz (.slice (if c = k then A else A.map (·.add (k * sz))) (n - k) (c - k)) (n - k) (xs.drop (k * sz)) := by
  refine ⟨by rw [List.length_drop, h.1, Nat.sub_mul], ?_⟩
  rcases h.2 with ⟨hv, h0⟩ | ⟨g, off, cap, cur, hv, hg, hnc, hcm, hcs, htk⟩
  · injection hv with h1 _ h2
    subst h1; subst h2
    obtain rfl : k = 0 := by omega
    obtain rfl : n = 0 := h0
    exact .inl ⟨rfl, rfl⟩
  · injection hv with h1 _ h2
    subst h1; subst h2
    by_cases hc : c = k
    · subst hc
      obtain rfl : c = n := by omega
      rw [if_pos rfl]
      refine .inr ⟨g, off, 0, cur, by simp, hg, by omega, by omega, by have := Nat.zero_le (c * sz); omega, ?_⟩
      have hlen : xs.length = c * sz := h.1
      simp [hlen]
    · rw [if_neg hc]
      refine .inr ⟨g, off + k * sz, c - k, cur, by simp [offs_add], hg, by omega, by omega, ?_, ?_⟩
      · rw [Nat.sub_mul]
        have := Nat.mul_le_mul_right sz (show k ≤ c by omega)
        omega
      · rw [← htk, List.drop_take, List.drop_drop, Nat.sub_mul]
theorem own_oneO (h : OwnsO w e sz v n xs) : v.oneCell' = true := by
  obtain ⟨A, c, rfl, _⟩ := ownO_shape h
  rfl
theorem OwnsO.keep {w' : World} (h : OwnsO w e sz v n xs) (hb : ∀ b, v.ownBlock = some b → b < w.heap.size → w'.heap[b]? = w.heap[b]?) : OwnsO w' e sz v n xs := by
  refine ⟨h.1, ?_⟩
  rcases h.2 with hn | ⟨g, off, cap, cur, rfl, hg, rest⟩
  · exact .inl hn
  · exact .inr ⟨g, off, cap, cur, rfl, by rw [hb g rfl (Array.getElem?_eq_some_iff.1 hg).1]; exact hg, rest⟩
theorem OwnsO.lt (h : OwnsO w e sz v n xs) {b : Nat} (hb : v.ownBlock = some b) : b < w.heap.size := by
  rcases h.2 with ⟨rfl, _⟩ | ⟨g, off, cap, cur, rfl, hg, rest⟩
  · simp [Value.ownBlock] at hb
  · obtain rfl : g = b := by simpa [Value.ownBlock] using hb
    exact (Array.getElem?_eq_some_iff.1 hg).1
end
section
variable {P : Program} (w : World)
theorem run_append_room_o (t tx ty e : TypeId) (i : TypeInfo) (ht : P.underlying t = some (.slice e)) (hi : P.info? e = some i)
    (g off sLen sCap : Nat) (cur : Array Value) (hg : w.heap[g]? = some (.cells cur e (0, 0))) (x : Value) (m : Nat) (news : List Value) (hs : Src P i.size tx x m news w)
    (hroom : sLen + m ≤ sCap) (hfit : off + sLen * i.size + news.length ≤ cur.size) :
    (Builtin.append_ #[t, tx] ty #[.slice (some ⟨g, off, none⟩) sLen sCap, x]).run P w =
      .ok (.slice (some ⟨g, off, none⟩) (sLen + m) sCap) (w.setRow g (cur.toList.take (off + sLen * i.size) ++ news ++ cur.toList.drop (off + sLen * i.size + news.length)).toArray) := by
  have hst := run_storeCells_at P g (off + sLen * i.size) e news 0 cur w hg (by simpa using hfit) hs.one
  simp only [Nat.add_zero] at hst
  rcases hs.kind with ⟨e', hk⟩ | hk <;> simp [Builtin.append_, run_underlying ht, run_underlying hk, sizeOf, typeInfo, hi, hs.len, hroom, hs.cells, Addr.add_lit, hst]
theorem run_append_o (t tx ty e : TypeId) (i : TypeInfo) (z : Value) (size bytes : Nat) (ht : P.underlying t = some (.slice e)) (hi : P.info? e = some i) (hz : i.zero = some z)
    (hsize : i.size = size) (hby : i.bytes = bytes) (hzs : z.cells.size = size) (hsz : 0 < size)
    (v : Value) (n : Nat) (xs : List Value) (hown : OwnsO w e size v n xs) (x : Value) (m : Nat) (news : List Value) (hs : Src P i.size tx x m news w)
    (h63 : n + m ≤ maxLen) (hbytes : (n + m) * bytes ≤ 140737488355328) :
    ∃ v' w', (Builtin.append_ #[t, tx] ty #[v, x]).run P w = .ok v' w' ∧ OwnsO w' e size v' (n + m) (xs ++ news) ∧ w.grownBy w' v.ownBlock ∧ (v'.ownBlock = v.ownBlock ∨ v'.ownBlock = some w.heap.size) := by
  subst hsize
  subst hby
  have hsmall : n + m ≤ 9223372036854775807 := by simp only [maxLen] at h63; omega
  have hl : news.length = m * i.size := hs.newsLen
  have hlen : (xs ++ news).length = (n + m) * i.size := by rw [List.length_append, hown.1, hl, Nat.add_mul]
  have grown : ∀ (old : Nat), old < n + m → ∀ (row : Option Nat),
      OwnsO (w.drew.alloc (.cells ((xs ++ news).toArray ++ Builtin.zeroCells z.cells (grownCap w (n + m) old e - (n + m))) e)) e i.size
        (.slice (some ⟨w.heap.size, 0, none⟩) (n + m) (grownCap w (n + m) old e)) (n + m) (xs ++ news) ∧
      w.grownBy (w.drew.alloc (.cells ((xs ++ news).toArray ++ Builtin.zeroCells z.cells (grownCap w (n + m) old e - (n + m))) e)) row := by
    intro old ho row
    have hge := grownCap_ge w (n + m) old e
    have hcm : grownCap w (n + m) old e ≤ maxLen := grownCap_le_maxLen w (n + m) old e h63
    refine ⟨⟨hlen, .inr ⟨w.heap.size, 0, _, _, rfl, heap_alloc_new w.drew _, hge, hcm, ?_, ?_⟩⟩, ⟨rfl, rfl, rfl, by simp, fun k hk _ => heap_alloc_old w.drew _ hk⟩⟩
    · simp only [Array.size_append, List.size_toArray, size_zeroCells, hzs, hlen, Nat.zero_add]
      rw [← Nat.add_mul]
      exact Nat.mul_le_mul_right _ (by omega)
    · simp only [Array.toList_append, List.drop_zero]
      rw [← hlen]
      exact List.take_left
  rcases hown.2 with ⟨rfl, rfl⟩ | ⟨g, off, cap, cur, rfl, hg, hnc, hcm, hcs, htake⟩
  · have hx : xs = [] := List.eq_nil_of_length_eq_zero (by simpa using hown.1)
    subst hx
    by_cases hm : m = 0
    · subst hm
      have hn : news = [] := List.eq_nil_of_length_eq_zero (by simpa using hl)
      subst hn
      refine ⟨.slice none 0 0, w, ?_, ownsO_nil w e i.size, ⟨rfl, rfl, rfl, Nat.le_refl _, fun _ _ _ => rfl⟩, Or.inl rfl⟩
      rcases hs.kind with ⟨e', hk⟩ | hk <;> simp [Builtin.append_, run_underlying ht, run_underlying hk, sizeOf, typeInfo, hi, hs.len, hs.cells]
    · have hr := run_append_grow_src (P := P) w t tx ty e i z ht hi hz none 0 0 [] (by simp [Builtin.firstCells]) x m news hs (by omega) (by omega) (growslice_fits (by omega) hbytes)
      have hgr := grown 0 (by omega) (Value.ownBlock (.slice none 0 0))
      simp only [Nat.zero_add, List.nil_append] at hgr hr ⊢
      exact ⟨_, _, hr, hgr.1, hgr.2, Or.inr rfl⟩
  · by_cases hroom : n + m ≤ cap
    · have hle : (n + m) * i.size ≤ cap * i.size := Nat.mul_le_mul_right _ hroom
      have hfit : off + n * i.size + news.length ≤ cur.size := by rw [hl]; rw [Nat.add_mul] at hle; omega
      have hr := run_append_room_o (P := P) w t tx ty e i ht hi g off n cap cur hg x m news hs hroom hfit
      refine ⟨_, _, hr, ⟨hlen, .inr ⟨g, off, cap, _, rfl, setRow_heap w g cur _ e _ hg, hroom, hcm, ?_, ?_⟩⟩, ⟨rfl, rfl, rfl, by simp, fun k _ hk => setRow_other w g k _ (fun e => hk (by simp [Value.ownBlock, e]))⟩, Or.inl rfl⟩
      · simp only [List.size_toArray, List.length_append, List.length_take, List.length_drop, Array.length_toList]
        omega
      · have h1 : off ≤ cur.toList.length := by simp; omega
        have h2 : cur.toList.take (off + n * i.size) = cur.toList.take off ++ xs := by rw [List.take_add, htake]
        have h3 : (cur.toList.take off).length = off := by rw [List.length_take]; omega
        simp only []
        rw [h2, List.append_assoc, List.append_assoc, List.drop_append_of_le_length (by rw [h3]; exact Nat.le_refl _), List.drop_of_length_le (by rw [h3]; exact Nat.le_refl _), List.nil_append, ← List.append_assoc, ← hlen]
        exact List.take_left
    · have holds : (Builtin.firstCells i.size n (.slice (some ⟨g, off, none⟩) n cap)).run P w.drew = .ok xs.toArray w.drew :=
        run_firstCells_some (P := P) w.drew i.size n ⟨g, off, none⟩ n cap xs hown.1 (by simpa using hown.cells)
      have hr := run_append_grow_src (P := P) w t tx ty e i z ht hi hz (some ⟨g, off, none⟩) n cap xs holds x m news hs (by omega) (by omega) (growslice_fits (by omega) hbytes)
      have hgr := grown cap (by omega) (Value.ownBlock (.slice (some ⟨g, off, none⟩) n cap))
      exact ⟨_, _, hr, hgr.1, hgr.2, Or.inr rfl⟩
end
end Go.Proofs.Ytgjfiedepfjdcaa
namespace Go.Proofs.Ytgjfiedepfjdcaa
open Go.RowKit
/-- what a value reads asq; memory that is never written any more -/
inductive T where
  | lit (v : Value)
  | row (n sz : Nat) (cs : List T)
  | agg (cs : List T)
  | tup (cs : List T)
  | fn (f : Fn) (cap : List T)
  | pin (cs : List T) (off : Nat)
def At (M : Mm) (ad : Addr) (xs : List Value) : Prop := ∀ j x, xs[j]? = some x → M (ad.add j) = some x
mutual
def RT (M : Mm) : T → Value → Prop
  | .lit v, u => u = v
  | .row n sz cs, u => ∃ (A : Option Addr) (c : Nat) (xs : List Value), u = .slice A n c ∧ n ≤ c ∧ n ≤ maxLen ∧ 0 < sz ∧ xs.length = n * sz ∧ (0 < n → ∃ ad, A = some ad ∧ At M ad xs) ∧ RTs M cs xs
  | .agg cs, u => ∃ xs : List Value, u = .agg xs.toArray ∧ RTs M cs xs
  | .tup cs, u => ∃ xs : List Value, u = .tuple xs.toArray ∧ RTs M cs xs
  | .fn f cap, u => ∃ xs : List Value, u = .func f #[] xs.toArray ∧ RTs M cap xs
  | .pin cs off, u => ∃ (ad : Addr) (xs : List Value), u = .pointer (some (ad.add off)) ∧ At M ad xs ∧ RTs M cs xs
def RTs (M : Mm) : List T → List Value → Prop
  | [], xs => xs = []
  | t :: ts, xs => ∃ (x : Value) (r : List Value), xs = x :: r ∧ RT M t x ∧ RTs M ts r
end
/-- more memory, what is new from block B on -/
def Ext (B : Nat → Prop) (M M' : Mm) : Prop := (∀ p v, M p = some v → M' p = some v) ∧ ∀ p v, M' p = some v → M p = some v ∨ B p.block
def fr (B : Nat) (b : Nat) : Prop := B ≤ b
def Sub (M M' : Mm) : Prop := ∀ p v, M p = some v → M' p = some v
theorem Sub.refl (M : Mm) : Sub M M := fun _ _ h => h
theorem Sub.trans {M M' M'' : Mm} (h : Sub M M') (h' : Sub M' M'') : Sub M M'' := fun p v hp => h' p v (h p v hp)
theorem Ext.sub {B : Nat → Prop} {M M' : Mm} (h : Ext B M M') : Sub M M' := h.1
theorem Ext.refl (B : Nat → Prop) (M : Mm) : Ext B M M := ⟨fun _ _ h => h, fun _ _ h => .inl h⟩
theorem Ext.trans {B : Nat → Prop} {M M' M'' : Mm} (h : Ext B M M') (h' : Ext B M' M'') : Ext B M M'' :=
  ⟨fun p v hp => h'.1 p v (h.1 p v hp), fun p v hp => (h'.2 p v hp).elim (fun h1 => h.2 p v h1) .inr⟩
theorem Ext.to {B B' : Nat → Prop} {M M' : Mm} (h : Ext B M M') (hB : ∀ b, B b → B' b) : Ext B' M M' := ⟨h.1, fun p v hp => (h.2 p v hp).imp id (hB _)⟩
theorem At.mono {M M' : Mm} {ad : Addr} {xs : List Value} (h : At M ad xs) (hs : Sub M M') : At M' ad xs := fun j x hx => hs _ _ (h j x hx)
mutual
theorem RT.mono {M M' : Mm} (hs : Sub M M') : ∀ (t : T) (u : Value), RT M t u → RT M' t u
  | .lit v, u, h => by simp only [RT] at h ⊢; exact h
  | .row n sz cs, u, h => by
    simp only [RT] at h ⊢
    obtain ⟨A, c, xs, h1, h2, h3, h4, h5, h6, h7⟩ := h
    refine ⟨A, c, xs, h1, h2, h3, h4, h5, fun hn => ?_, RTs.mono hs cs xs h7⟩
    obtain ⟨ad, e, ha⟩ := h6 hn
    exact ⟨ad, e, ha.mono hs⟩
  | .agg cs, u, h => by
    simp only [RT] at h ⊢
    obtain ⟨xs, h1, h2⟩ := h
    exact ⟨xs, h1, RTs.mono hs cs xs h2⟩
  | .tup cs, u, h => by
    simp only [RT] at h ⊢
    obtain ⟨xs, h1, h2⟩ := h
    exact ⟨xs, h1, RTs.mono hs cs xs h2⟩
  | .fn f cap, u, h => by
    simp only [RT] at h ⊢
    obtain ⟨xs, h1, h2⟩ := h
    exact ⟨xs, h1, RTs.mono hs cap xs h2⟩
  | .pin cs off, u, h => by
    simp only [RT] at h ⊢
    obtain ⟨ad, xs, h1, h2, h3⟩ := h
    exact ⟨ad, xs, h1, h2.mono hs, RTs.mono hs cs xs h3⟩
theorem RTs.mono {M M' : Mm} (hs : Sub M M') : ∀ (ts : List T) (xs : List Value), RTs M ts xs → RTs M' ts xs
  | [], xs, h => by simp only [RTs] at h ⊢; exact h
  | t :: ts, xs, h => by
    simp only [RTs] at h ⊢
    obtain ⟨x, r, e, h1, h2⟩ := h
    exact ⟨x, r, e, RT.mono hs t x h1, RTs.mono hs ts r h2⟩
end
theorem RTs.len {M : Mm} : ∀ {ts : List T} {xs : List Value}, RTs M ts xs → xs.length = ts.length
  | [], _, h => by simp only [RTs] at h; simp [h]
  | t :: ts, _, h => by
    simp only [RTs] at h
    obtain ⟨x, r, rfl, _, h2⟩ := h
    simp [RTs.len h2]
theorem RTs.get {M : Mm} : ∀ {ts : List T} {xs : List Value} {j : Nat} {t : T}, RTs M ts xs → ts[j]? = some t → ∃ x, xs[j]? = some x ∧ RT M t x
  | [], _, _, _, _, hj => by simp at hj
  | t :: ts, _, 0, t', h, hj => by
    simp only [RTs] at h
    obtain ⟨x, r, rfl, h1, _⟩ := h
    obtain rfl : t = t' := by simpa using hj
    exact ⟨x, rfl, h1⟩
  | t :: ts, _, j + 1, t', h, hj => by
    simp only [RTs] at h
    obtain ⟨x, r, rfl, _, h2⟩ := h
    obtain ⟨y, h3, h4⟩ := RTs.get (j := j) (t := t') h2 (by simpa using hj)
    exact ⟨y, by simpa using h3, h4⟩
theorem RTs.app {M : Mm} : ∀ {ts us : List T} {xs ys : List Value}, RTs M ts xs → RTs M us ys → RTs M (ts ++ us) (xs ++ ys)
  | [], _, _, _, h, h' => by simp only [RTs] at h; subst h; simpa using h'
  | t :: ts, us, _, ys, h, h' => by
    simp only [RTs] at h
    obtain ⟨x, r, rfl, h1, h2⟩ := h
    simp only [List.cons_append, RTs]
    exact ⟨x, r ++ ys, rfl, h1, RTs.app h2 h'⟩
theorem RTs.drop {M : Mm} : ∀ {ts : List T} {xs : List Value} (k : Nat), RTs M ts xs → RTs M (ts.drop k) (xs.drop k)
  | _, _, 0, h => h
  | [], _, k + 1, h => by simp only [RTs] at h; subst h; simp [RTs]
  | t :: ts, _, k + 1, h => by
    simp only [RTs] at h
    obtain ⟨x, r, rfl, h1, h2⟩ := h
    simpa using RTs.drop k h2
theorem RTs.take {M : Mm} : ∀ {ts : List T} {xs : List Value} (k : Nat), RTs M ts xs → RTs M (ts.take k) (xs.take k)
  | _, _, 0, h => by simp [RTs]
  | [], _, k + 1, h => by simp only [RTs] at h; subst h; simp [RTs]
  | t :: ts, _, k + 1, h => by
    simp only [RTs] at h
    obtain ⟨x, r, rfl, h1, h2⟩ := h
    simp only [List.take_succ_cons, RTs]
    exact ⟨x, r.take k, rfl, h1, RTs.take k h2⟩
/-- what is known of memory is there -/
def MemOk (M : Mm) (w : World) : Prop := ∀ p v, M p = some v → w.cell? p = some v ∧ v.oneCell' = true
/-- a function with a body -/
def Enters (P : Program) (f : FuncId) : Prop := ∃ fn, P.funcs[f]? = some fn ∧ (fn.name == "runtime.NumGoroutine") = false ∧ fn.body.isNone = false
/-- the function, given values that read so, returns a value that reads so; nothing that was there is written -/
def AF (P : Program) (f : FuncId) (args : List T) (R : T → Prop) : Prop :=
  Enters P f ∧ ∀ (M : Mm) (w : World) (vs : List Value), Glob w → MemOk M w → RTs M args vs →
    Calls P f vs.toArray w fun e w' => ∃ v r M', e = .returned v ∧ R r ∧ Ext (fr w.heap.size) M M' ∧ MemOk M' w' ∧ RT M' r v ∧ Below w.heap.size w w'
/-- what a slot holds; the first number of a pointer or a row of the call's own is a hint alone: where it stands among the blocks -/
inductive AV where
  | c (t : T)
  | agg (cs : List AV)
  | tup (cs : List AV)
  | fn (f : Fn) (cap : List AV)
  | ptr (i b off : Nat)
  | own (i : Nat) (v : Value)
  | eptr (i : Nat) (v : Value) (k : Nat)
  | junk
mutual
def RA (M : Mm) : AV → Value → Prop
  | .c t, u => RT M t u
  | .agg cs, u => ∃ xs : List Value, u = .agg xs.toArray ∧ RAs M cs xs
  | .tup cs, u => ∃ xs : List Value, u = .tuple xs.toArray ∧ RAs M cs xs
  | .fn f cap, u => ∃ xs : List Value, u = .func f #[] xs.toArray ∧ RAs M cap xs
  | .ptr _ b off, u => u = .pointer (some ⟨b, off, none⟩)
  | .own _ v, u => u = v ∧ v.oneCell' = true
  | .eptr _ v k, u => ∃ ad n c, v = .slice (some ad) n c ∧ u = .pointer (some (ad.add k))
  | .junk, _ => True
def RAs (M : Mm) : List AV → List Value → Prop
  | [], xs => xs = []
  | t :: ts, xs => ∃ (x : Value) (r : List Value), xs = x :: r ∧ RA M t x ∧ RAs M ts r
end
mutual
theorem RA.mono {M M' : Mm} (hs : Sub M M') : ∀ (t : AV) (u : Value), RA M t u → RA M' t u
  | .c t, u, h => by simp only [RA] at h ⊢; exact RT.mono hs t u h
  | .agg cs, u, h => by
    simp only [RA] at h ⊢
    obtain ⟨xs, h1, h2⟩ := h
    exact ⟨xs, h1, RAs.mono hs cs xs h2⟩
  | .tup cs, u, h => by
    simp only [RA] at h ⊢
    obtain ⟨xs, h1, h2⟩ := h
    exact ⟨xs, h1, RAs.mono hs cs xs h2⟩
  | .fn f cap, u, h => by
    simp only [RA] at h ⊢
    obtain ⟨xs, h1, h2⟩ := h
    exact ⟨xs, h1, RAs.mono hs cap xs h2⟩
  | .ptr i b off, u, h => by simp only [RA] at h ⊢; exact h
  | .own i v, u, h => by simp only [RA] at h ⊢; exact h
  | .eptr i v k, u, h => by simp only [RA] at h ⊢; exact h
  | .junk, u, h => by simp only [RA]
theorem RAs.mono {M M' : Mm} (hs : Sub M M') : ∀ (ts : List AV) (xs : List Value), RAs M ts xs → RAs M' ts xs
  | [], xs, h => by simp only [RAs] at h ⊢; exact h
  | t :: ts, xs, h => by
    simp only [RAs] at h ⊢
    obtain ⟨x, r, e, h1, h2⟩ := h
    exact ⟨x, r, e, RA.mono hs t x h1, RAs.mono hs ts r h2⟩
end
theorem RAs.len {M : Mm} : ∀ {ts : List AV} {xs : List Value}, RAs M ts xs → xs.length = ts.length
  | [], _, h => by simp only [RAs] at h; simp [h]
  | t :: ts, _, h => by
    simp only [RAs] at h
    obtain ⟨x, r, rfl, _, h2⟩ := h
    simp [RAs.len h2]
theorem RAs.get {M : Mm} : ∀ {ts : List AV} {xs : List Value} {j : Nat} {t : AV}, RAs M ts xs → ts[j]? = some t → ∃ x, xs[j]? = some x ∧ RA M t x
  | [], _, _, _, _, hj => by simp at hj
  | t :: ts, _, 0, t', h, hj => by
    simp only [RAs] at h
    obtain ⟨x, r, rfl, h1, _⟩ := h
    obtain rfl : t = t' := by simpa using hj
    exact ⟨x, rfl, h1⟩
  | t :: ts, _, j + 1, t', h, hj => by
    simp only [RAs] at h
    obtain ⟨x, r, rfl, _, h2⟩ := h
    obtain ⟨y, h3, h4⟩ := RAs.get (j := j) (t := t') h2 (by simpa using hj)
    exact ⟨y, by simpa using h3, h4⟩
theorem RAs.app {M : Mm} : ∀ {ts us : List AV} {xs ys : List Value}, RAs M ts xs → RAs M us ys → RAs M (ts ++ us) (xs ++ ys)
  | [], _, _, _, h, h' => by simp only [RAs] at h; subst h; simpa using h'
  | t :: ts, us, _, ys, h, h' => by
    simp only [RAs] at h
    obtain ⟨x, r, rfl, h1, h2⟩ := h
    simp only [List.cons_append, RAs]
    exact ⟨x, r ++ ys, rfl, h1, RAs.app h2 h'⟩
theorem RAs.drop {M : Mm} : ∀ {ts : List AV} {xs : List Value} (k : Nat), RAs M ts xs → RAs M (ts.drop k) (xs.drop k)
  | _, _, 0, h => h
  | [], _, k + 1, h => by simp only [RAs] at h; subst h; simp [RAs]
  | t :: ts, _, k + 1, h => by
    simp only [RAs] at h
    obtain ⟨x, r, rfl, h1, h2⟩ := h
    simpa using RAs.drop k h2
theorem RAs.take {M : Mm} : ∀ {ts : List AV} {xs : List Value} (k : Nat), RAs M ts xs → RAs M (ts.take k) (xs.take k)
  | _, _, 0, h => by simp [RAs]
  | [], _, k + 1, h => by simp only [RAs] at h; subst h; simp [RAs]
  | t :: ts, _, k + 1, h => by
    simp only [RAs] at h
    obtain ⟨x, r, rfl, h1, h2⟩ := h
    simp only [List.take_succ_cons, RAs]
    exact ⟨x, r.take k, rfl, h1, RAs.take k h2⟩
theorem RAs.set {M : Mm} : ∀ {ts : List AV} {xs : List Value} (k : Nat) {t : AV} {x : Value}, RAs M ts xs → RA M t x → RAs M (ts.set k t) (xs.set k x)
  | [], _, _, _, _, h, _ => by simp only [RAs] at h; subst h; simp [RAs]
  | a :: ts, _, 0, _, _, h, ht => by
    simp only [RAs] at h
    obtain ⟨x, r, rfl, h1, h2⟩ := h
    simp only [List.set_cons_zero, RAs]
    exact ⟨_, _, rfl, ht, h2⟩
  | a :: ts, _, k + 1, _, _, h, ht => by
    simp only [RAs] at h
    obtain ⟨x, r, rfl, h1, h2⟩ := h
    simp only [List.set_cons_succ, RAs]
    exact ⟨_, _, rfl, h1, RAs.set k h2 ht⟩
theorem RAs.ofT {M : Mm} : ∀ {ts : List T} {xs : List Value}, RTs M ts xs → RAs M (ts.map .c) xs
  | [], _, h => by simp only [RTs] at h; simp [h, RAs]
  | t :: ts, _, h => by
    simp only [RTs] at h
    obtain ⟨x, r, rfl, h1, h2⟩ := h
    simp only [List.map_cons, RAs, RA]
    exact ⟨x, r, rfl, h1, RAs.ofT h2⟩
theorem RAs.toT {M : Mm} : ∀ {ts : List T} {xs : List Value}, RAs M (ts.map .c) xs → RTs M ts xs
  | [], _, h => by simp only [List.map_nil, RAs] at h; simp [h, RTs]
  | t :: ts, _, h => by
    simp only [List.map_cons, RAs, RA] at h
    obtain ⟨x, r, rfl, h1, h2⟩ := h
    simp only [RTs]
    exact ⟨x, r, rfl, h1, RAs.toT h2⟩
/-- a block of the call's own: a variable, or a row that may grow -/
inductive Blk where
  | box (b : Nat) (t : TypeId) (cs : List AV)
  | row (v : Value) (e : TypeId) (sz n : Nat) (cs : List T)
  | mpx (b : Nat) (es : List (Value × T)) (o : Option (List Nat × Nat))
  | it (b m : Nat) (st : List Nat) (c : Nat) (P : List Nat)
  | obj (b : Nat) (o : Obj)
  | dead
/-- a map that nothing walks over -/
@[reducible, match_pattern] def Blk.mp (b : Nat) (es : List (Value × T)) : Blk := .mpx b es none
def Blk.blk : Blk → Option Nat
  | .box b _ _ => some b
  | .row v _ _ _ _ => v.ownBlock
  | .mpx b _ _ => some b
  | .it b _ _ _ _ => some b
  | .obj b _ => some b
  | .dead => none
/-- the stamps of a map's entries: all different, and behind the clock -/
def Stm (l : List MapEntry) (clock : Nat) : Prop := (l.map (·.born)).Nodup ∧ ∀ e ∈ l, e.born < clock
def OneAll (xs : List Value) : Prop := ∀ x ∈ xs, x.oneCell' = true
def BlkOk (M : Mm) (w : World) : Blk → Prop
  | .box b t cs => ∃ xs : List Value, w.heap[b]? = some (.cells xs.toArray t) ∧ RAs M cs xs ∧ OneAll xs
  | .row v e sz n cs => ∃ xs : List Value, OwnsO w e sz v n xs ∧ RTs M cs xs ∧ OneAll xs ∧ 0 < sz
  | .mpx b es o => ∃ (l : List MapEntry) (clock : Nat), w.heap[b]? = some (.map l.toArray clock) ∧ l.map (·.key) = es.map (·.1) ∧ RTs M (es.map (·.2)) (l.map (·.val)) ∧ Stm l clock ∧ ∀ s ∈ o, s = (l.map (·.born), clock)
  | .it b m st c P => w.heap[b]? = some (.mapIter (some m) c (P.map fun p => st.getD p 0).toArray c) ∧ ∀ p ∈ P, p < st.length
  | .obj b o => w.heap[b]? = some o
  | .dead => True
/-- from which world on, and which of its blocks may be written -/
structure Frm where
  w0 : World
  X : Nat → Prop
  M0 : Mm
  G : Glob w0
  GX : ∀ x ∈ globTab, ¬ X x.1
def Frm.may (F : Frm) (b : Nat) : Prop := F.X b ∨ F.w0.heap.size ≤ b
theorem Ext.low {F : Frm} {B : Nat} {M M' : Mm} (h : Ext (fr B) M M') (hB : F.w0.heap.size ≤ B) : Ext F.may M M' := h.to fun _ hb => .inr (Nat.le_trans hB hb)
structure Keeps (F : Frm) (w : World) : Prop where
  os : w.os = F.w0.os
  tape : w.tape = F.w0.tape
  output : w.output = F.w0.output
  size : F.w0.heap.size ≤ w.heap.size
  block : ∀ b, b < F.w0.heap.size → ¬ F.X b → w.heap[b]? = F.w0.heap[b]?
structure HeapOk (F : Frm) (M : Mm) (hp : List Blk) (w : World) : Prop where
  mem : MemOk M w
  ext : Ext F.may F.M0 M
  frm : Keeps F w
  at_ : ∀ (i : Nat) (x : Blk), hp[i]? = some x → BlkOk M w x
  sep : ∀ (i j : Nat) (x y : Blk) (b : Nat), hp[i]? = some x → hp[j]? = some y → x.blk = some b → y.blk = some b → i = j
  out : ∀ (i : Nat) (x : Blk) (b : Nat), hp[i]? = some x → x.blk = some b → F.may b ∧ ∀ p : Addr, p.block = b → M p = none
theorem HeapOk.glob {F : Frm} {M : Mm} {hp : List Blk} {w : World} (h : HeapOk F M hp w) : Glob w := glob_keep F.G fun x hx hl => h.frm.block x.1 hl (F.GX x hx)
theorem BlkOk.keep {M M' : Mm} {w w' : World} {x : Blk} (h : BlkOk M w x) (hs : Sub M M') (hb : ∀ b, x.blk = some b → b < w.heap.size → w'.heap[b]? = w.heap[b]?) : BlkOk M' w' x := by
  cases x with
  | box b t cs =>
    obtain ⟨xs, h1, h2, h3⟩ := h
    exact ⟨xs, by rw [hb b rfl (Array.getElem?_eq_some_iff.1 h1).1]; exact h1, RAs.mono hs _ _ h2, h3⟩
  | row v e sz n cs =>
    obtain ⟨xs, h1, h2, h3, h4⟩ := h
    exact ⟨xs, h1.keep hb, RTs.mono hs _ _ h2, h3, h4⟩
  | mpx b es o =>
    obtain ⟨l, clock, h1, h2, h3, h4⟩ := h
    exact ⟨l, clock, by rw [hb b rfl (Array.getElem?_eq_some_iff.1 h1).1]; exact h1, h2, RTs.mono hs _ _ h3, h4⟩
  | it b m st c P =>
    obtain ⟨h1, h2⟩ := h
    exact ⟨by rw [hb b rfl (Array.getElem?_eq_some_iff.1 h1).1]; exact h1, h2⟩
  | obj b o => exact (hb b rfl (Array.getElem?_eq_some_iff.1 h).1).trans h
  | dead => trivial
theorem BlkOk.lt {M : Mm} {w : World} {x : Blk} (h : BlkOk M w x) {b : Nat} (hb : x.blk = some b) : b < w.heap.size := by
  cases x with
  | box b' t cs =>
    obtain ⟨xs, h1, _⟩ := h
    obtain rfl : b' = b := by simpa [Blk.blk] using hb
    exact (Array.getElem?_eq_some_iff.1 h1).1
  | row v e sz n cs =>
    obtain ⟨xs, h1, _⟩ := h
    exact h1.lt hb
  | mpx b' es o =>
    obtain ⟨l, clock, h1, _⟩ := h
    obtain rfl : b' = b := by simpa [Blk.blk] using hb
    exact (Array.getElem?_eq_some_iff.1 h1).1
  | it b' m st c P =>
    obtain ⟨h1, h2⟩ := h
    obtain rfl : b' = b := by simpa [Blk.blk] using hb
    exact (Array.getElem?_eq_some_iff.1 h1).1
  | obj b' o =>
    obtain rfl : b' = b := by simpa [Blk.blk] using hb
    exact (Array.getElem?_eq_some_iff.1 h).1
  | dead => simp [Blk.blk] at hb
/-- one step: the block of the i-th item may be written, memory may be added -/
theorem HeapOk.step {F : Frm} {M M' : Mm} {hp hp' : List Blk} {w w' : World} (h : HeapOk F M hp w) (i : Nat)
    (hos : w'.os = w.os) (htape : w'.tape = w.tape) (hout : w'.output = w.output) (hsz : w.heap.size ≤ w'.heap.size)
    (hblk : ∀ b, b < w.heap.size → (∀ x, hp[i]? = some x → x.blk ≠ some b) → w'.heap[b]? = w.heap[b]?)
    (hM : Ext (fr w.heap.size) M M') (hnew : ∀ p v, M' p = some v → M p = none → w'.cell? p = some v ∧ v.oneCell' = true)
    (hl : ∀ j : Nat, j ≠ i → hp'[j]? = hp[j]?) (hi : ∀ x', hp'[i]? = some x' → BlkOk M' w' x' ∧ ∀ b, x'.blk = some b → (∃ x, hp[i]? = some x ∧ x.blk = some b) ∨ (w.heap.size ≤ b ∧ ∀ p : Addr, p.block = b → M' p = none)) :
    HeapOk F M' hp' w' := by
  have hkeep : ∀ j x, hp[j]? = some x → j ≠ i → ∀ b, x.blk = some b → b < w.heap.size → w'.heap[b]? = w.heap[b]? := by
    intro j x hx hj b hb hlt
    refine hblk b hlt fun y hy hyb => hj (h.sep j i x y b hx hy hb hyb)
  have hMnone : ∀ b, b < w.heap.size → (∀ p : Addr, p.block = b → M p = none) → ∀ p : Addr, p.block = b → M' p = none := by
    intro b hb hp p hpb
    cases hc : M' p with
    | none => rfl
    | some v =>
      rcases hM.2 p v hc with h1 | h1
      · rw [hp p hpb] at h1; cases h1
      · unfold fr at h1; omega
  refine ⟨?_, h.ext.trans (hM.low h.frm.size), ?_, ?_, ?_, ?_⟩
  · intro p v hp
    cases hc : M p with
    | none => exact hnew p v hp hc
    | some u =>
      have hu := hM.1 p u hc
      rw [hp] at hu
      obtain rfl : v = u := by injection hu
      obtain ⟨h1, h2⟩ := h.mem p v hc
      refine ⟨?_, h2⟩
      have hlt := World.block_lt_of_cell? w p h1
      rw [World.cell?_of_block (w := w) (hblk p.block hlt fun x hx hxb => ?_)]
      · exact h1
      · have := (h.out i x p.block hx hxb).2 p rfl
        rw [hc] at this; cases this
  · refine ⟨hos.trans h.frm.os, htape.trans h.frm.tape, hout.trans h.frm.output, Nat.le_trans h.frm.size hsz, fun b hb hX => ?_⟩
    rw [hblk b (Nat.lt_of_lt_of_le hb h.frm.size) fun x hx hxb => ?_]
    · exact h.frm.block b hb hX
    · rcases (h.out i x b hx hxb).1 with h1 | h1
      · exact hX h1
      · omega
  · intro j x hx
    by_cases hj : j = i
    · subst hj; exact (hi x hx).1
    · rw [hl j hj] at hx
      exact (h.at_ j x hx).keep hM.sub (hkeep j x hx hj)
  · intro j k x y b hx hy hxb hyb
    by_cases hj : j = i
    · by_cases hk : k = i
      · rw [hj, hk]
      · subst hj
        rw [hl k hk] at hy
        rcases (hi x hx).2 b hxb with ⟨z, hz, hzb⟩ | ⟨h1, _⟩
        · exact h.sep j k z y b hz hy hzb hyb
        · have := (h.at_ k y hy).lt hyb; omega
    · by_cases hk : k = i
      · subst hk
        rw [hl j hj] at hx
        rcases (hi y hy).2 b hyb with ⟨z, hz, hzb⟩ | ⟨h1, _⟩
        · exact h.sep j k x z b hx hz hxb hzb
        · have := (h.at_ j x hx).lt hxb; omega
      · rw [hl j hj] at hx; rw [hl k hk] at hy
        exact h.sep j k x y b hx hy hxb hyb
  · intro j x b hx hxb
    by_cases hj : j = i
    · subst hj
      rcases (hi x hx).2 b hxb with ⟨z, hz, hzb⟩ | ⟨h1, h2⟩
      · obtain ⟨h3, h4⟩ := h.out j z b hz hzb
        exact ⟨h3, hMnone b ((h.at_ j z hz).lt hzb) h4⟩
      · exact ⟨.inr (Nat.le_trans h.frm.size h1), h2⟩
    · rw [hl j hj] at hx
      obtain ⟨h3, h4⟩ := h.out j x b hx hxb
      exact ⟨h3, hMnone b ((h.at_ j x hx).lt hxb) h4⟩
/-- nothing but the count of draws -/
theorem HeapOk.drew {F : Frm} {M : Mm} {hp : List Blk} {w : World} (h : HeapOk F M hp w) : HeapOk F M hp { w with drawn := w.drawn + 1 } :=
  ⟨h.mem, h.ext, ⟨h.frm.os, h.frm.tape, h.frm.output, h.frm.size, h.frm.block⟩, fun i x hx => (h.at_ i x hx).keep (Sub.refl _) fun _ _ _ => rfl, h.sep, h.out⟩
structure AS where
  tmps : Nat → AV
  hp : List Blk
  N : Nat
/-- a slot is written; the blocks are these now -/
def AS.st (σ : AS) (d : Option Tmp) (v : AV) (hp' : List Blk) : AS :=
  ⟨match d with | none => σ.tmps | some d => fun i => cond (Nat.beq i d && Nat.blt d σ.N) v (σ.tmps i), hp', σ.N⟩
def AS.ev (σ : AS) : Operand → AV
  | .tmp t => σ.tmps t
  | .const v => .c (.lit v)
  | .global g => .c (.lit (.pointer (some ⟨g, 0, none⟩)))
  | .func f => .fn (.func f) []
structure Rep (F : Frm) (M : Mm) (σ : AS) (a : Act) (w : World) : Prop where
  tmps : ∀ i, RA M (σ.tmps i) (a.tmps.getD i undef)
  size : a.tmps.size = σ.N
  defers : a.defers = []
  heap : HeapOk F M σ.hp w
theorem Rep.ev {F : Frm} {M : Mm} {σ : AS} {a : Act} {w : World} (h : Rep F M σ a w) (x : Operand) : RA M (σ.ev x) (a.eval x) := by
  cases x with
  | tmp t => exact h.tmps t
  | const v => simp only [AS.ev, Act.eval, RA, RT]
  | global g => simp only [AS.ev, Act.eval, RA, RT]
  | func f => simp only [AS.ev, Act.eval, RA, RAs]; exact ⟨[], rfl, rfl⟩
theorem Rep.st {F : Frm} {M M' : Mm} {σ : AS} {a : Act} {w w' : World} (h : Rep F M σ a w) (hs : Sub M M') {hp' : List Blk} (hh : HeapOk F M' hp' w') (d : Option Tmp) {v : AV} {u : Value} (hv : RA M' v u) :
    Rep F M' (σ.st d v hp') (a.put d u) w' := by
  cases d with
  | none => exact ⟨fun i => RA.mono hs _ _ (h.tmps i), h.size, h.defers, hh⟩
  | some d =>
    refine ⟨fun i => ?_, by simp [Act.put, AS.st, h.size], h.defers, hh⟩
    simp only [AS.st, Act.put, Array.getD_eq_getD_getElem?, Array.getElem?_setIfInBounds]
    by_cases hi : d = i
    · subst hi
      by_cases hd : d < σ.N
      · have : Nat.blt d σ.N = true := Nat.ble_eq_true_of_le hd
        rw [if_pos rfl, if_pos (by rw [h.size]; exact hd), this, Nat.beq_refl]
        exact hv
      · have hbl : Nat.blt d σ.N = false := by
          cases hc : Nat.blt d σ.N with
          | false => rfl
          | true => exact absurd (Nat.le_of_ble_eq_true hc) hd
        have := RA.mono hs _ _ (h.tmps d)
        rw [if_pos rfl, if_neg (by rw [h.size]; exact hd), hbl, Bool.and_false]
        have hn : a.tmps.getD d undef = undef := by simp [Array.getD_eq_getD_getElem?, h.size, hd]
        rw [hn] at this
        exact this
    · have hb : Nat.beq i d = false := by
        cases hc : Nat.beq i d with
        | false => rfl
        | true => exact absurd (Nat.eq_of_beq_eq_true hc).symm hi
      rw [if_neg hi, hb]
      have := RA.mono hs _ _ (h.tmps i)
      simpa [Array.getD_eq_getD_getElem?] using this
end Go.Proofs.Ytgjfiedepfjdcaa
namespace Go.Proofs.Ytgjfiedepfjdcaa
open Go.RowKit
/-- what is asked once an operation has yielded this -/
def Yl (P : Program) (r : Result Next) (next : Value → World → Prop) : Prop :=
  match r with
  | .ok (.value u) w' => next u w'
  | .ok .skip w' => next undef w'
  | .ok (.enter f args) w' => Calls P f args w' fun e w'' => ∃ v, e = .returned v ∧ next v w''
  | _ => False
theorem Yl.mono {P : Program} {r : Result Next} {next next' : Value → World → Prop} (h : Yl P r next) (hn : ∀ u w, next u w → next' u w) : Yl P r next' := by
  unfold Yl at *
  split <;> simp_all
  exact h.mono fun e w'' ⟨v, he, hv⟩ => ⟨v, he, hn _ _ hv⟩
/-- one operation, at operands that read so -/
structure LO (P : Program) (F : Frm) (o : Oper) (ρ : Operand → AV) (hp : List Blk) (K : AV → List Blk → Prop) : Prop where
  out : ∀ (M : Mm) (e : Operand → Value) (w : World), (∀ x ∈ o.op.operands.toList, RA M (ρ x) (e x)) → HeapOk F M hp w →
    Yl P ((execOp e o).run P w) fun u w' => ∃ M' v hp', K v hp' ∧ Ext F.may M M' ∧ HeapOk F M' hp' w' ∧ RA M' v u
theorem LO.mono {P : Program} {F : Frm} {o : Oper} {ρ : Operand → AV} {hp : List Blk} {K K' : AV → List Blk → Prop} (h : LO P F o ρ hp K) (hk : ∀ v hp', K v hp' → K' v hp') : LO P F o ρ hp K' :=
  ⟨fun M e w h1 h2 => (h.out M e w h1 h2).mono fun _ _ ⟨M', v, hp', h3, h4⟩ => ⟨M', v, hp', hk _ _ h3, h4⟩⟩
theorem LO.congr {P : Program} {F : Frm} {o : Oper} {ρ ρ' : Operand → AV} {hp : List Blk} {K : AV → List Blk → Prop} (h : LO P F o ρ hp K) (hk : ∀ x ∈ o.op.operands.toList, ρ' x = ρ x) : LO P F o ρ' hp K :=
  ⟨fun M e w h1 h2 => h.out M e w (fun x hx => by rw [← hk x hx]; exact h1 x hx) h2⟩
/-- a value, the world asq it was -/
theorem LO.same {P : Program} {F : Frm} {o : Oper} {ρ : Operand → AV} {hp : List Blk} {K : AV → List Blk → Prop} {v : AV}
    (h : ∀ (M : Mm) (e : Operand → Value) (w : World), (∀ x ∈ o.op.operands.toList, RA M (ρ x) (e x)) → HeapOk F M hp w → ∃ u, (execOp e o).run P w = .ok (.value u) w ∧ RA M v u) (hK : K v hp) : LO P F o ρ hp K := by
  refine ⟨fun M e w h1 h2 => ?_⟩
  obtain ⟨u, hr, hu⟩ := h M e w h1 h2
  rw [hr]
  exact ⟨M, v, hp, hK, Ext.refl _ _, h2, hu⟩
/-- operations in their order -/
structure AL (P : Program) (F : Frm) (ops : Array Oper) (K : AS → Prop) (l : List Oper) (σ : AS) : Prop where
  out : ∀ (M : Mm) (a : Act) (w : World), Rep F M σ a w → ∀ Q : Exit → Act → World → Prop, (∀ M' σ' a' w', K σ' → Rep F M' σ' a' w' → Q .normal a' w') → wpList P ops Q l a w
structure AC (P : Program) (F : Frm) (c : Code) (Q : Exit → AS → Prop) (σ : AS) : Prop where
  out : ∀ (M : Mm) (a : Act) (w : World), Rep F M σ a w → c.wp P (fun e a' w' => ∃ M' σ', Q e σ' ∧ Rep F M' σ' a' w') a w
section
variable {P : Program} {F : Frm}
theorem Yl.wp {o : Oper} {a : Act} {w : World} {next : Value → World → Prop} (h : Yl P ((execOp a.eval o).run P w) next) {K : Act → World → Prop} (Q : Exit → Act → World → Prop) (hk : ∀ u w', next u w' → K (a.put o.dst u) w') : o.wp P a w K Q := by
  unfold Oper.wp
  unfold Yl at h
  split at h
  · rename_i hr; rw [hr]; exact hk _ _ h
  · rename_i hr; rw [hr]; exact hk _ _ h
  · rename_i hr
    rw [hr]
    exact h.mono fun e w'' ⟨v, he, hv⟩ => by subst he; exact hk _ _ hv
  · exact h.elim
theorem al_nil {ops : Array Oper} {K : AS → Prop} {σ : AS} (h : K σ) : AL P F ops K [] σ := ⟨fun M a w hr _ hQ => hQ M σ a w h hr⟩
theorem al_op {ops : Array Oper} {K : AS → Prop} {σ : AS} {rest : List Oper} {d : Option Tmp} {op : Op} {ty : TypeId} {pos : String} {aft : Array Edge}
    (h : LO P F ⟨d, op, ty, pos, aft, none⟩ σ.ev σ.hp fun v hp' => AL P F ops K rest (σ.st d v hp')) : AL P F ops K (⟨d, op, ty, pos, aft, none⟩ :: rest) σ := by
  refine ⟨fun M a w hr Q hQ => ?_⟩
  refine wpList_plain rfl fun K' hK' => ?_
  refine (h.out M a.eval w (fun x _ => hr.ev x) hr.heap).wp Q fun u w' ⟨M', v, hp', h1, h2, h3, h4⟩ => hK' _ _ (h1.out M' _ _ (hr.st h2.sub h3 _ h4) Q hQ)
theorem yielded_of {M : Mm} {σ : AS} {a : Act} {w : World} (hr : Rep F M σ a w) {ops : Array Oper} {g : Nat} {d : Tmp} {c : Bool} (hd : (ops[g]?).bind (·.dst) = some d) (hv : σ.tmps d = .c (.lit (.bool c))) : yielded ops a.tmps g = some c := by
  have h := hr.tmps d
  rw [hv] at h
  simp only [RA, RT] at h
  unfold yielded
  rw [hd]
  simp only [Option.bind_some]
  rw [Array.getD_eq_getD_getElem?] at h
  cases hc : a.tmps[d]? with
  | none => rw [hc] at h; simp [undef] at h
  | some u => rw [hc] at h; simp at h; simp [h]
theorem al_do {ops : Array Oper} {K : AS → Prop} {σ : AS} {rest : List Oper} {dt : Option Tmp} {op : Op} {ty : TypeId} {pos : String} {aft : Array Edge} {g : Nat} {b : Bool} (d : Tmp)
    (hd : (ops[g]?).bind (·.dst) = some d) (hv : σ.tmps d = .c (.lit (.bool b)))
    (h : LO P F ⟨dt, op, ty, pos, aft, some (g, b)⟩ σ.ev σ.hp fun v hp' => AL P F ops K rest (σ.st dt v hp')) : AL P F ops K (⟨dt, op, ty, pos, aft, some (g, b)⟩ :: rest) σ := by
  refine ⟨fun M a w hr Q hQ => ?_⟩
  refine wpList_step fun K' hK' => ?_
  rw [if_pos (by simp [Region.wanted, yielded_of hr hd hv])]
  refine (h.out M a.eval w (fun x _ => hr.ev x) hr.heap).wp Q fun u w' ⟨M', v, hp', h1, h2, h3, h4⟩ => hK' _ _ (h1.out M' _ _ (hr.st h2.sub h3 _ h4) Q hQ)
theorem al_not {ops : Array Oper} {K : AS → Prop} {σ : AS} {rest : List Oper} {dt : Option Tmp} {op : Op} {ty : TypeId} {pos : String} {aft : Array Edge} {g : Nat} {b : Bool} (d : Tmp)
    (hd : (ops[g]?).bind (·.dst) = some d) (hv : σ.tmps d = .c (.lit (.bool !b)))
    (h : AL P F ops K rest (σ.st dt (.c (.lit undef)) σ.hp)) : AL P F ops K (⟨dt, op, ty, pos, aft, some (g, b)⟩ :: rest) σ := by
  refine ⟨fun M a w hr Q hQ => ?_⟩
  refine wpList_step fun K' hK' => ?_
  rw [if_neg (by cases b <;> simp [Region.wanted, yielded_of hr hd hv])]
  exact hK' _ _ (h.out M _ _ (hr.st (Sub.refl _) hr.heap _ (by simp [RA, RT])) Q hQ)
theorem yielded_un {M : Mm} {σ : AS} {a : Act} {w : World} (hr : Rep F M σ a w) {ops : Array Oper} {g : Nat} {d : Tmp} (hd : (ops[g]?).bind (·.dst) = some d) (hv : σ.tmps d = .c (.lit undef)) : yielded ops a.tmps g = none := by
  have h := hr.tmps d
  rw [hv] at h
  simp only [RA, RT] at h
  unfold yielded
  rw [hd]
  simp only [Option.bind_some]
  rw [Array.getD_eq_getD_getElem?] at h
  cases hc : a.tmps[d]? with
  | none => rfl
  | some u => rw [hc] at h; simp [undef] at h; simp [h]
theorem al_un {ops : Array Oper} {K : AS → Prop} {σ : AS} {rest : List Oper} {dt : Option Tmp} {op : Op} {ty : TypeId} {pos : String} {aft : Array Edge} {g : Nat} {b : Bool} (d : Tmp)
    (hd : (ops[g]?).bind (·.dst) = some d) (hv : σ.tmps d = .c (.lit undef))
    (h : AL P F ops K rest (σ.st dt (.c (.lit undef)) σ.hp)) : AL P F ops K (⟨dt, op, ty, pos, aft, some (g, b)⟩ :: rest) σ := by
  refine ⟨fun M a w hr Q hQ => ?_⟩
  refine wpList_step fun K' hK' => ?_
  rw [if_neg (by simp [Region.wanted, yielded_un hr hd hv])]
  exact hK' _ _ (h.out M _ _ (hr.st (Sub.refl _) hr.heap _ (by simp [RA, RT])) Q hQ)
theorem ac_region {id : Nat} {l : List Oper} {Q : Exit → AS → Prop} {σ : AS} (h : AL P F l.toArray (Q .normal) l σ) : AC P F (.region id l.toArray false) Q σ :=
  ⟨fun M a w hr => wp_region_lit (h.out M a w hr _ fun M' σ' _ _ hq hr' => ⟨M', σ', hq, hr'⟩)⟩
theorem AC.mono {c : Code} {Q Q' : Exit → AS → Prop} {σ : AS} (h : AC P F c Q σ) (hq : ∀ e σ', Q e σ' → Q' e σ') : AC P F c Q' σ :=
  ⟨fun M a w hr => wp_mono (h.out M a w hr) fun _ _ _ ⟨M', σ', h1, h2⟩ => ⟨M', σ', hq _ _ h1, h2⟩⟩
theorem ac_skip {Q : Exit → AS → Prop} {σ : AS} (h : Q .normal σ) : AC P F .skip Q σ := ⟨fun M _ _ hr => wp_skip ⟨M, σ, h, hr⟩⟩
theorem ac_ret {Q : Exit → AS → Prop} {σ : AS} (h : Q .ret σ) : AC P F .ret Q σ := ⟨fun M _ _ hr => wp_ret ⟨M, σ, h, hr⟩⟩
theorem ac_exit {id : Nat} {Q : Exit → AS → Prop} {σ : AS} (h : Q (.exit id) σ) : AC P F (.exit id) Q σ := ⟨fun M _ _ hr => wp_exit ⟨M, σ, h, hr⟩⟩
def thenA (next : AS → Prop) (Q : Exit → AS → Prop) (e : Exit) (σ : AS) : Prop :=
  match e with
  | .normal => next σ
  | e => Q e σ
def inBlk (id : Nat) (Q : Exit → AS → Prop) (e : Exit) (σ : AS) : Prop :=
  match e with
  | .exit id' => cond (Nat.beq id' id) (Q .normal σ) (Q (.exit id') σ)
  | e => Q e σ
theorem ac_seq {x y : Code} {Q : Exit → AS → Prop} {σ : AS} (h : AC P F x (thenA (AC P F y Q) Q) σ) : AC P F (.seq x y) Q σ := by
  refine ⟨fun M a w hr => ?_⟩
  refine wp_seq (wp_mono (h.out M a w hr) ?_)
  rintro e a' w' ⟨M', σ', h1, h2⟩
  cases e <;> first | exact h1.out M' a' w' h2 | exact ⟨M', σ', h1, h2⟩
theorem ac_block {id : Nat} {x : Code} {Q : Exit → AS → Prop} {σ : AS} (h : AC P F x (inBlk id Q) σ) : AC P F (.block id x) Q σ := by
  refine ⟨fun M a w hr => ?_⟩
  refine wp_block (wp_mono (h.out M a w hr) ?_)
  rintro e a' w' ⟨M', σ', h1, h2⟩
  cases e with
  | exit id' =>
    simp only [Exit.inBlock]
    by_cases hi : id' = id
    · subst hi
      rw [if_pos rfl]
      simp only [inBlk, Nat.beq_refl, cond_true] at h1
      exact ⟨M', σ', h1, h2⟩
    · have hb : Nat.beq id' id = false := by
        cases hc : Nat.beq id' id with
        | false => rfl
        | true => exact absurd (Nat.eq_of_beq_eq_true hc) hi
      rw [if_neg hi]
      simp only [inBlk, hb, cond_false] at h1
      exact ⟨M', σ', h1, h2⟩
  | _ => exact ⟨M', σ', h1, h2⟩
theorem ac_cond {c : Operand} {x y : Code} {Q : Exit → AS → Prop} {σ : AS} {t : Bool} (hc : σ.ev c = .c (.lit (.bool t))) (ht : t = true → AC P F x Q σ) (hf : t = false → AC P F y Q σ) : AC P F (.cond c x y) Q σ := by
  refine ⟨fun M a w hr => ?_⟩
  have h := hr.ev c
  rw [hc] at h
  simp only [RA, RT] at h
  exact wp_cond_split h (fun e => (ht e).out M a w hr) (fun e => (hf e).out M a w hr)
/-- what is known under σ gives what is known under τ -/
def Wk (F : Frm) (σ τ : AS) : Prop := ∀ (M : Mm) (a : Act) (w : World), Rep F M σ a w → ∃ M', Rep F M' τ a w
theorem Wk.refl (σ : AS) : Wk F σ σ := fun M _ _ h => ⟨M, h⟩
theorem Wk.trans {σ τ υ : AS} (h : Wk F σ τ) (h' : Wk F τ υ) : Wk F σ υ := fun M a w hr => let ⟨M', hr'⟩ := h M a w hr; h' M' a w hr'
theorem ac_wk {c : Code} {Q : Exit → AS → Prop} {σ τ : AS} (h : Wk F σ τ) (hc : AC P F c Q τ) : AC P F c Q σ := ⟨fun M a w hr => let ⟨M', hr'⟩ := h M a w hr; hc.out M' a w hr'⟩
theorem ac_loop {c : Code} {Q : Exit → AS → Prop} {σ : AS} {A : Type} (st : A → AS) (I : A → Prop) (μ : A → Nat) (x₀ : A) (h₀ : I x₀) (hσ : Wk F σ (st x₀))
    (round : ∀ x, I x → AC P F c (thenA (fun σ' => ∃ y, I y ∧ μ y < μ x ∧ Wk F σ' (st y)) Q) (st x)) : AC P F (.loop c) Q σ := by
  refine ⟨fun M a w hr => ?_⟩
  obtain ⟨M₁, hr₁⟩ := hσ M a w hr
  refine wp_loop_ghost (fun n a w => ∃ x M, I x ∧ μ x = n ∧ Rep F M (st x) a w) (μ x₀) ⟨x₀, M₁, h₀, rfl, hr₁⟩ ?_
  rintro n a w ⟨x, M, hx, rfl, hr⟩
  refine wp_mono ((round x hx).out M a w hr) ?_
  rintro e a' w' ⟨M', σ', h1, h2⟩
  cases e with
  | normal =>
    obtain ⟨y, hy, hlt, hw⟩ := h1
    obtain ⟨M'', hr''⟩ := hw M' a' w' h2
    exact ⟨μ y, hlt, y, M'', hy, rfl, hr''⟩
  | _ => exact ⟨M', σ', h1, h2⟩
def memB (i : Nat) : List Nat → Bool
  | [] => false
  | j :: l => cond (Nat.beq i j) true (memB i l)
def lkp (i : Nat) : List (Nat × AV) → Option AV
  | [] => none
  | (j, v) :: l => cond (Nat.beq i j) (some v) (lkp i l)
/-- the slots of W are forgotten, those of l hold these, the blocks are these -/
def AS.at_ (σ : AS) (W : List Nat) (l : List (Nat × AV)) (hp : List Blk) : AS :=
  ⟨fun i => match lkp i l with | some v => v | none => cond (memB i W) .junk (σ.tmps i), hp, σ.N⟩
def Agree (W : List Nat) (σ τ : AS) : Prop := σ.N = τ.N ∧ ∀ i, memB i W = false → σ.tmps i = τ.tmps i
def Has (σ : AS) : List (Nat × AV) → Prop
  | [] => True
  | (d, v) :: l => σ.tmps d = v ∧ Has σ l
theorem Agree.refl (W : List Nat) (σ : AS) : Agree W σ σ := ⟨rfl, fun _ _ => rfl⟩
theorem agree_st {W : List Nat} {σ τ : AS} {d : Tmp} {v : AV} {hp : List Blk} (hd : memB d W = true) (h : Agree W σ τ) : Agree W (σ.st (some d) v hp) τ := by
  refine ⟨h.1, fun i hi => ?_⟩
  have : Nat.beq i d = false := by
    cases hc : Nat.beq i d with
    | false => rfl
    | true =>
      have := Nat.eq_of_beq_eq_true hc
      subst this
      rw [hd] at hi; cases hi
  simp only [AS.st, this, Bool.false_and, cond_false]
  exact h.2 i hi
theorem lkp_mem {i : Nat} {v : AV} : ∀ {l : List (Nat × AV)}, lkp i l = some v → ∃ p ∈ l, p.1 = i ∧ p.2 = v
  | [], h => by simp [lkp] at h
  | (j, u) :: l, h => by
    unfold lkp at h
    cases hc : Nat.beq i j with
    | true =>
      rw [hc] at h
      simp only [cond_true, Option.some.injEq] at h
      exact ⟨(j, u), by simp, (Nat.eq_of_beq_eq_true hc).symm, h⟩
    | false =>
      rw [hc] at h
      obtain ⟨p, h1, h2⟩ := lkp_mem (l := l) h
      exact ⟨p, by simp [h1], h2⟩
theorem agree_at {W W' : List Nat} {σ τ : AS} {l : List (Nat × AV)} {hp : List Blk} (hW : (W'.all fun d => memB d W) = true) (hl : (l.all fun p => memB p.1 W) = true) (h : Agree W σ τ) : Agree W (σ.at_ W' l hp) τ := by
  refine ⟨h.1, fun i hi => ?_⟩
  have h1 : lkp i l = none := by
    cases hc : lkp i l with
    | none => rfl
    | some v =>
      obtain ⟨p, hp, rfl, _⟩ := lkp_mem hc
      have := List.all_eq_true.1 hl p hp
      rw [hi] at this; cases this
  have h2 : memB i W' = false := by
    cases hc : memB i W' with
    | false => rfl
    | true =>
      have hm : ∀ l : List Nat, memB i l = true → i ∈ l := by
        intro l
        induction l with
        | nil => intro h; cases h
        | cons j l ih =>
          intro h
          unfold memB at h
          cases hb : Nat.beq i j with
          | true => have := Nat.eq_of_beq_eq_true hb; subst this; simp
          | false => rw [hb] at h; exact List.mem_cons_of_mem _ (ih h)
      have := List.all_eq_true.1 hW i (hm W' hc)
      rw [hi] at this; cases this
  simp only [AS.at_, h1, h2, cond_false]
  exact h.2 i hi
theorem has_get {σ : AS} {i : Nat} {v : AV} : ∀ {l : List (Nat × AV)}, Has σ l → lkp i l = some v → σ.tmps i = v
  | [], _, h => by simp [lkp] at h
  | (j, u) :: l, hh, h => by
    unfold lkp at h
    cases hc : Nat.beq i j with
    | true =>
      rw [hc] at h
      simp only [cond_true, Option.some.injEq] at h
      rw [Nat.eq_of_beq_eq_true hc, ← h]; exact hh.1
    | false => rw [hc] at h; exact has_get hh.2 h
theorem wk_at {σ τ : AS} {W : List Nat} {l : List (Nat × AV)} {hp : List Blk} (hl : Has σ l) (hp' : σ.hp = hp) (h : Agree W σ τ) : Wk F σ (τ.at_ W l hp) := by
  subst hp'
  intro M a w hr
  refine ⟨M, fun i => ?_, hr.size.trans h.1, hr.defers, hr.heap⟩
  simp only [AS.at_]
  cases hc : lkp i l with
  | some v => rw [← has_get hl hc]; exact hr.tmps i
  | none =>
    cases hw : memB i W with
    | true => simp only [cond_true, RA]
    | false => simp only [cond_false]; rw [← h.2 i hw]; exact hr.tmps i
/-- blocks at the end are let go -/
theorem wk_drop {σ : AS} (k : Nat) : Wk F σ ⟨σ.tmps, σ.hp.take k, σ.N⟩ := by
  intro M a w hr
  have hg : ∀ (i : Nat) (x : Blk), (σ.hp.take k)[i]? = some x → σ.hp[i]? = some x := by
    intro i x hx
    rw [List.getElem?_take] at hx
    split at hx
    · exact hx
    · cases hx
  exact ⟨M, hr.tmps, hr.size, hr.defers, hr.heap.mem, hr.heap.ext, hr.heap.frm, fun i x hx => hr.heap.at_ i x (hg i x hx), fun i j x y b hx hy => hr.heap.sep i j x y b (hg i x hx) (hg j y hy), fun i x b hx => hr.heap.out i x b (hg i x hx)⟩
def AS.init (N : Nat) (args : List AV) : AS := ⟨fun i => cond (Nat.blt i N) (args.getD i (.c (.lit undef))) (.c (.lit undef)), [], N⟩
end
end Go.Proofs.Ytgjfiedepfjdcaa
