/-
  Arguments opened: api.Use, solve.Module and slices of both; api.Program as far as it is read here.
-/
import Derived.Test.YtdajeoifmfbgkaaOpen
import Derived.Test.YtdajeoifmfbgkaaUse
import Derived.Deep.Slices
namespace Go.Proofs.Ytdajeoifmfbgkaa
open Go.ChangeShapes Go.WideShapes Go.ChangeAt Go.RowKit Go.Deep

theorem list3 {α : Type} {l : List α} (h : l.length = 3) : ∃ a b c, l = [a, b, c] :=
  match l, h with
  | [a, b, c], _ => ⟨a, b, c, rfl⟩
theorem list8 {α : Type} {l : List α} (h : l.length = 8) : ∃ a b c d e f g i, l = [a, b, c, d, e, f, g, i] :=
  match l, h with
  | [a, b, c, d, e, f, g, i], _ => ⟨a, b, c, d, e, f, g, i, rfl⟩

section
variable {H : Type} {enc : TypeId × Value → H} {P : Program} {w : World} {base : Nat} {spare : Nat → Bool} {held : Bool}

/-- a slice of whatever elements -/
theorem open_rows {α : Type} [Inhabited α] (f : α → List Dat) (sz : Nat) (hsz : 0 < sz) (Q : α → DataW H → Prop) {t e : TypeId} {fuel : Nat} {cs : List Value} {x : DataW H × List MemPlace}
    (ht : P.underlying t = some (.slice e)) (hC : P.cellsOf e = sz)
    (hel : ∀ (fuel : Nat) (cs : List Value) (x : DataW H × List MemPlace), DataW.trod enc P w base spare held fuel e cs = some x → ∃ a, RV w (· < w.heap.size) (f a) cs ∧ Q a x.1)
    (h : DataW.trod enc P w base spare held fuel t cs = some x) :
    ∃ (A : Option Addr) (n c : Nat) (xs : List Value) (l : List α), cs = [.slice A n c] ∧ n ≤ c ∧ l.length = n ∧ Rs w (· < w.heap.size) sz A n xs ∧ RV w (· < w.heap.size) (l.flatMap f) xs ∧
      ((n = 0 ∧ l = [] ∧ x.1 = .nil) ∨ ∃ (D : Nat → DataW H) (sp : List (DataW H)), x.1 = .slice ((List.range n).map D) sp ∧ ∀ i a, l[i]? = some a → Q a (D i)) := by
  rcases open_slice ht h with ⟨rfl, rfl⟩ | ⟨a, len, cap, m, n, D, Pl, rfl, hb, hl, hm, hmm, rfl, hi⟩
  · exact ⟨none, 0, 0, [], [], rfl, Nat.le_refl _, rfl, ⟨by simp, fun h => absurd h (by omega)⟩, by simp [RV], .inl ⟨rfl, rfl, rfl⟩⟩
  · have hlm : len ≤ m := by rw [hmm]; split <;> omega
    rw [hC] at hi
    have hv : ∀ i, i < len → ∃ p : α × List Value, (p.2.length = sz ∧ ∀ j u, p.2[j]? = some u → w.cell? (a.add (i * sz + j)) = some u) ∧ RV w (· < w.heap.size) (f p.1) p.2 ∧ Q p.1 (D i) := by
      intro i hil
      obtain ⟨cs', h1, h2⟩ := hi i (by omega)
      obtain ⟨el, h3, h4⟩ := hel _ _ _ h2
      obtain ⟨_, hlen, hcell⟩ := World.cells?_some h1
      refine ⟨(el, cs'), ⟨hlen, fun j u hu => ?_⟩, h3, h4⟩
      have hj : j < sz := by rw [← hlen]; exact (List.getElem?_eq_some_iff.1 hu).1
      rw [← hu, ← hcell j hj, add_add']
    obtain ⟨F, hF⟩ := choose_lt (α := α × List Value) hv
    have hxl : ∀ k, k ≤ len → ((List.range k).flatMap fun i => (F i).2).length = k * sz := by
      intro k
      induction k with
      | zero => intro _; simp
      | succ k ih =>
        intro hk
        rw [List.range_succ, List.flatMap_append, List.length_append, ih (by omega)]
        simp only [List.flatMap_cons, List.flatMap_nil, List.append_nil, (hF k (by omega)).1.1, Nat.add_mul]
        omega
    have hxc : ∀ k, k ≤ len → ∀ j u, ((List.range k).flatMap fun i => (F i).2)[j]? = some u → w.cell? (a.add j) = some u := by
      intro k
      induction k with
      | zero => intro _ j u hu; simp at hu
      | succ k ih =>
        intro hk j u hu
        rw [List.range_succ, List.flatMap_append, List.getElem?_append, hxl k (by omega)] at hu
        split at hu
        · exact ih (by omega) j u hu
        · simp only [List.flatMap_cons, List.flatMap_nil, List.append_nil] at hu
          have := (hF k (by omega)).1.2 _ u hu
          rwa [show k * sz + (j - k * sz) = j by omega] at this
    have hxv : ∀ k, k ≤ len → RV w (· < w.heap.size) (((List.range k).map fun i => (F i).1).flatMap f) ((List.range k).flatMap fun i => (F i).2) := by
      intro k
      induction k with
      | zero => intro _; simp [RV]
      | succ k ih =>
        intro hk
        rw [List.range_succ, List.flatMap_append, List.map_append, List.flatMap_append]
        refine RV.app (ih (by omega)) ?_
        simpa using (hF k (by omega)).2.1
    refine ⟨some a, len, cap, (List.range len).flatMap fun i => (F i).2, (List.range len).map fun i => (F i).1, rfl, hl, by simp, ⟨hxl len (Nat.le_refl _), fun h0 => ⟨a, rfl, ?_, hxc len (Nat.le_refl _)⟩⟩, hxv len (Nat.le_refl _), .inr ⟨D, _, rfl, ?_⟩⟩
    · have h1 := (hF 0 h0).1
      have h2 : 0 < (F 0).2.length := by rw [h1.1]; exact hsz
      have := lt_of_cell (h1.2 0 _ (List.getElem?_eq_getElem h2))
      simpa [add_block] using this
    · intro i el hil
      have hi' : i < len := by
        have := (List.getElem?_eq_some_iff.1 hil).1
        simpa using this
      simp [hi'] at hil
      rw [← hil]
      exact (hF i hi').2.2
end

section
variable {H : Type} {enc : TypeId × Value → H} {w : World} {base : Nat} {spare : Nat → Bool} {held : Bool}
theorem cells_str : Try.prog.cellsOf 9 = 1 := by kernel_rfl
theorem cells_int : Try.prog.cellsOf 3 = 1 := by kernel_rfl
theorem cells_use : Try.prog.cellsOf 107 = 3 := by kernel_rfl
theorem cells_mod : Try.prog.cellsOf 100 = 3 := by kernel_rfl
theorem cells_uses : Try.prog.cellsOf 73 = 1 := by kernel_rfl
instance : Inhabited UseD := ⟨⟨[], 0, 0⟩⟩
instance : Inhabited ModD := ⟨⟨[], 0, []⟩⟩

theorem str_of (s : ByteArray) : s = ⟨s.data.toList.toArray⟩ := by simp

theorem open_use (fuel : Nat) (cs : List Value) (x : DataW H × List MemPlace) (h : DataW.trod enc Try.prog w base spare held fuel 107 cs = some x) :
    ∃ u : UseD, RV w (· < w.heap.size) u.dats cs ∧ u.name.length ≤ 9223372036854775807 ∧ u.name.length + 1 ≤ Rows.uptoBulk x.1 := by
  obtain ⟨ys, n, _, rfl, hlen, hyl, hf⟩ := DataW.trod_struct Try.underlying107 h
  rw [cells_use] at hlen
  obtain ⟨c0, c1, c2, rfl⟩ := list3 hlen
  obtain ⟨y0, y1, y2, rfl⟩ := list3 hyl
  have f0 : DataW.trod enc Try.prog w base spare held n 9 (([c0, c1, c2].drop 0).take (Try.prog.cellsOf 9)) = some y0 := hf 0 _ rfl
  have f1 : DataW.trod enc Try.prog w base spare held n 3 (([c0, c1, c2].drop 1).take (Try.prog.cellsOf 3)) = some y1 := hf 1 _ rfl
  have f2 : DataW.trod enc Try.prog w base spare held n 3 (([c0, c1, c2].drop 2).take (Try.prog.cellsOf 3)) = some y2 := hf 2 _ rfl
  rw [cells_str] at f0
  rw [cells_int] at f1 f2
  obtain ⟨s, e0, rfl, hs⟩ := DataW.trod_string Try.underlying9 f0
  obtain ⟨lo, e1, rfl, _⟩ := DataW.trod_int Try.underlying3 f1
  obtain ⟨hi, e2, rfl, _⟩ := DataW.trod_int Try.underlying3 f2
  obtain rfl : c0 = .string s := by simpa using e0
  obtain rfl : c1 = .int .i64 lo := by simpa using e1
  obtain rfl : c2 = .int .i64 hi := by simpa using e2
  have hsz : s.data.toList.length = s.size := by rw [Array.length_toList]; rfl
  refine ⟨⟨s.data.toList, lo, hi⟩, ?_, ?_, ?_⟩
  · simp only [UseD.dats, RV, RD]
    exact ⟨_, _, rfl, ⟨congrArg Value.string (str_of s), rfl⟩, _, _, rfl, ⟨rfl, rfl⟩, _, _, rfl, ⟨rfl, rfl⟩, rfl⟩
  · simp only [hsz]; simpa [maxLen] using hs
  · simp only [List.map_cons, List.map_nil, Rows.uptoBulk, Rows.uptoBulkAll]; omega

theorem open_uses {fuel : Nat} {cs : List Value} {x : DataW H × List MemPlace} (h : DataW.trod enc Try.prog w base spare held fuel 73 cs = some x) :
    ∃ (A : Option Addr) (n c : Nat) (xs : List Value) (l : List UseD), cs = [.slice A n c] ∧ n ≤ c ∧ l.length = n ∧ Rs w (· < w.heap.size) 3 A n xs ∧ RV w (· < w.heap.size) (l.flatMap UseD.dats) xs ∧
      (∀ u ∈ l, u.name.length ≤ 9223372036854775807) ∧ ((n = 0 ∧ x.1 = .nil) ∨ ∃ els sp, x.1 = .slice els sp ∧ els.length = n) := by
  obtain ⟨A, n, c, xs, l, h1, h2, h3, h4, h5, h6⟩ := open_rows UseD.dats 3 (by omega) (fun u _ => u.name.length ≤ 9223372036854775807) Try.underlying73 cells_use (fun fuel cs x h => by
    obtain ⟨u, g1, g2, _⟩ := open_use fuel cs x h
    exact ⟨u, g1, g2⟩) h
  refine ⟨A, n, c, xs, l, h1, h2, h3, h4, h5, ?_, ?_⟩
  · rcases h6 with ⟨_, rfl, _⟩ | ⟨D, sp, _, hq⟩
    · intro u hu; simp at hu
    · intro u hu
      obtain ⟨i, hi, rfl⟩ := List.getElem_of_mem hu
      exact hq i _ (List.getElem?_eq_getElem hi)
  · rcases h6 with ⟨h0, _, hx⟩ | ⟨D, sp, hx, _⟩
    · exact .inl ⟨h0, hx⟩
    · exact .inr ⟨_, sp, hx, by simp⟩

theorem open_mod (fuel : Nat) (cs : List Value) (x : DataW H × List MemPlace) (h : DataW.trod enc Try.prog w base spare held fuel 100 cs = some x) :
    ∃ u : ModD, RV w (· < w.heap.size) u.dats cs ∧ u.name.length ≤ 9223372036854775807 ∧ ∀ v ∈ u.uses, v.name.length ≤ 9223372036854775807 := by
  obtain ⟨ys, n, _, rfl, hlen, hyl, hf⟩ := DataW.trod_struct Try.underlying100 h
  rw [cells_mod] at hlen
  obtain ⟨c0, c1, c2, rfl⟩ := list3 hlen
  obtain ⟨y0, y1, y2, rfl⟩ := list3 hyl
  have f0 : DataW.trod enc Try.prog w base spare held n 9 (([c0, c1, c2].drop 0).take (Try.prog.cellsOf 9)) = some y0 := hf 0 _ rfl
  have f1 : DataW.trod enc Try.prog w base spare held n 3 (([c0, c1, c2].drop 1).take (Try.prog.cellsOf 3)) = some y1 := hf 1 _ rfl
  have f2 : DataW.trod enc Try.prog w base spare held n 73 (([c0, c1, c2].drop 2).take (Try.prog.cellsOf 73)) = some y2 := hf 2 _ rfl
  rw [cells_str] at f0
  rw [cells_int] at f1
  rw [cells_uses] at f2
  obtain ⟨s, e0, rfl, hs⟩ := DataW.trod_string Try.underlying9 f0
  obtain ⟨lo, e1, rfl, _⟩ := DataW.trod_int Try.underlying3 f1
  obtain ⟨A, m, c, xs, l, e2, g2, _, g4, g5, g6, _⟩ := open_uses f2
  obtain rfl : c0 = .string s := by simpa using e0
  obtain rfl : c1 = .int .i64 lo := by simpa using e1
  obtain rfl : c2 = .slice A m c := by simpa using e2
  have hsz : s.data.toList.length = s.size := by rw [Array.length_toList]; rfl
  refine ⟨⟨s.data.toList, lo, l⟩, ?_, ?_, g6⟩
  · simp only [ModD.dats, RV, RD]
    exact ⟨_, _, rfl, ⟨congrArg Value.string (str_of s), rfl⟩, _, _, rfl, ⟨rfl, rfl⟩, _, _, rfl, ⟨A, m, c, xs, rfl, g2, by omega, g4, g5⟩, rfl⟩
  · simp only [hsz]; simpa [maxLen] using hs

theorem open_mods {fuel : Nat} {cs : List Value} {x : DataW H × List MemPlace} (h : DataW.trod enc Try.prog w base spare held fuel 98 cs = some x) :
    ∃ (A : Option Addr) (n c : Nat) (xs : List Value) (l : List ModD), cs = [.slice A n c] ∧ n ≤ c ∧ l.length = n ∧ Rs w (· < w.heap.size) 3 A n xs ∧ RV w (· < w.heap.size) (l.flatMap ModD.dats) xs ∧
      (∀ u ∈ l, u.name.length ≤ 9223372036854775807 ∧ ∀ v ∈ u.uses, v.name.length ≤ 9223372036854775807) := by
  obtain ⟨A, n, c, xs, l, h1, h2, h3, h4, h5, h6⟩ := open_rows ModD.dats 3 (by omega) (fun u _ => u.name.length ≤ 9223372036854775807 ∧ ∀ v ∈ u.uses, v.name.length ≤ 9223372036854775807) Try.underlying98 cells_mod (fun fuel cs x h => open_mod fuel cs x h) h
  refine ⟨A, n, c, xs, l, h1, h2, h3, h4, h5, ?_⟩
  rcases h6 with ⟨_, rfl, _⟩ | ⟨D, sp, _, hq⟩
  · intro u hu; simp at hu
  · intro u hu
    obtain ⟨i, hi, rfl⟩ := List.getElem_of_mem hu
    exact hq i _ (List.getElem?_eq_getElem hi)

theorem cells_prog : Try.prog.cellsOf 80 = 8 := by kernel_rfl

/-- a program, as far as its name, version and uses -/
theorem open_progUses {fuel : Nat} {cs : List Value} {x : DataW H × List MemPlace} (h : DataW.trod enc Try.prog w base spare held fuel 80 cs = some x) :
    ∃ (nm : List UInt8) (ver : Int) (A : Option Addr) (n c : Nat) (xs : List Value) (l : List UseD) (z3 z4 z5 z6 z7 : Value) (d0 d1 d2 d3 d4 d5 d6 d7 : DataW H), cs = [.string ⟨nm.toArray⟩, .int .i64 ver, .slice A n c, z3, z4, z5, z6, z7] ∧ nm.length ≤ 9223372036854775807 ∧
      n ≤ c ∧ l.length = n ∧ Rs w (· < w.heap.size) 3 A n xs ∧ RV w (· < w.heap.size) (l.flatMap UseD.dats) xs ∧ (∀ u ∈ l, u.name.length ≤ 9223372036854775807) ∧ x.1 = .agg [d0, d1, d2, d3, d4, d5, d6, d7] ∧ ((n = 0 ∧ d2 = .nil) ∨ ∃ els sp, d2 = .slice els sp ∧ els.length = n) := by
  obtain ⟨ys, n, _, rfl, hlen, hyl, hf⟩ := DataW.trod_struct Try.underlying80 h
  rw [cells_prog] at hlen
  obtain ⟨c0, c1, c2, c3, c4, c5, c6, c7, rfl⟩ := list8 hlen
  obtain ⟨y0, y1, y2, y3, y4, y5, y6, y7, rfl⟩ := list8 hyl
  have f0 : DataW.trod enc Try.prog w base spare held n 9 (([c0, c1, c2, c3, c4, c5, c6, c7].drop 0).take (Try.prog.cellsOf 9)) = some y0 := hf 0 _ rfl
  have f1 : DataW.trod enc Try.prog w base spare held n 3 (([c0, c1, c2, c3, c4, c5, c6, c7].drop 1).take (Try.prog.cellsOf 3)) = some y1 := hf 1 _ rfl
  have f2 : DataW.trod enc Try.prog w base spare held n 73 (([c0, c1, c2, c3, c4, c5, c6, c7].drop 2).take (Try.prog.cellsOf 73)) = some y2 := hf 2 _ rfl
  rw [cells_str] at f0
  rw [cells_int] at f1
  rw [cells_uses] at f2
  obtain ⟨s, e0, rfl, hs⟩ := DataW.trod_string Try.underlying9 f0
  obtain ⟨lo, e1, rfl, _⟩ := DataW.trod_int Try.underlying3 f1
  obtain ⟨A, m, c, xs, l, e2, g2, g3, g4, g5, g6, g7⟩ := open_uses f2
  obtain rfl : c0 = .string s := by simpa using e0
  obtain rfl : c1 = .int .i64 lo := by simpa using e1
  obtain rfl : c2 = .slice A m c := by simpa using e2
  have hsz : s.data.toList.length = s.size := by rw [Array.length_toList]; rfl
  refine ⟨s.data.toList, lo, A, m, c, xs, l, c3, c4, c5, c6, c7, _, _, y2.1, y3.1, y4.1, y5.1, y6.1, y7.1, ?_, ?_, g2, g3, g4, g5, g6, rfl, g7⟩
  · rw [← str_of s]
  · rw [hsz]; simpa [maxLen] using hs

end
end Go.Proofs.Ytdajeoifmfbgkaa
