/-
  Texts of this proof, part 7: Kca Tab Kcb Kcc Ir.
-/
import Derived.Test.YtdogdjcjmhogmaaQChunkShelf6
import Derived.Lib.MinMax
import Derived.Test.YtdogdjcjmhogmaaProg
namespace Go.Proofs.Ytdogdjcjmhogmaa
open Go.RowKit
structure Pc where
  n : Int
  t : ByteArray
  h : Int
instance : Inhabited Pc := ⟨⟨0, ⟨#[]⟩, 0⟩⟩
structure POk (D : List Pc) : Prop where
  nn : (D.map Pc.n).Nodup
  tn : (D.map Pc.t).Nodup
  hh : ∀ p ∈ D, 1 ≤ p.h ∧ p.h ≤ 1000000
  ts : ∀ p ∈ D, p.t.size ≤ 32
  ln : D.length ≤ 500
theorem pok_nil : POk [] := ⟨List.nodup_nil, List.nodup_nil, fun _ h => by simp at h, fun _ h => by simp at h, by simp⟩
def leastF (D : List Pc) : Nat → Int → Int
  | 0, n => n
  | f + 1, n => if n ∈ D.map Pc.n then leastF D f (n + 1) else n
def leastN (D : List Pc) : Int := leastF D (D.length + 1) 1
structure FreeAt (D : List Pc) (k : Nat) : Prop where
  le : k ≤ D.length
  eq : leastF D (D.length + 1 - k) ((k : Int) + 1) = leastN D
  all : ∀ m : Nat, m < k → ((m : Int) + 1) ∈ D.map Pc.n
theorem free_zero (D : List Pc) : FreeAt D 0 := ⟨Nat.zero_le _, rfl, fun m h => absurd h (Nat.not_lt_zero _)⟩
theorem free_step {D : List Pc} {k : Nat} (h : FreeAt D k) (hk : ((k : Int) + 1) ∈ D.map Pc.n) : FreeAt D (k + 1) := by
  have hall : ∀ m : Nat, m < k + 1 → ((m : Int) + 1) ∈ D.map Pc.n := by
    intro m hm
    by_cases e : m = k
    · subst e; exact hk
    · exact h.all m (by omega)
  have hle : k + 1 ≤ D.length := by
    have h1 : ((List.range (k + 1)).map fun m : Nat => ((m : Int) + 1)).Nodup := by
      rw [List.Nodup, List.pairwise_map]
      exact List.Pairwise.imp (fun h => by omega) (List.nodup_range (n := k + 1))
    have h2 := h1.length_le_of_subset (l₂ := D.map Pc.n) (by
      intro x hx
      obtain ⟨m, hm, rfl⟩ := List.mem_map.1 hx
      exact hall m (List.mem_range.1 hm))
    simpa using h2
  refine ⟨hle, ?_, hall⟩
  have := h.eq
  rw [show D.length + 1 - k = (D.length + 1 - (k + 1)) + 1 by have := h.le; omega, leastF, if_pos hk] at this
  rw [← this]
  rfl
theorem free_end {D : List Pc} {k : Nat} (h : FreeAt D k) (hk : ((k : Int) + 1) ∉ D.map Pc.n) : leastN D = (k : Int) + 1 := by
  have := h.eq
  rw [show D.length + 1 - k = (D.length - k) + 1 by have := h.le; omega, leastF, if_neg hk] at this
  exact this.symm
theorem least_not (D : List Pc) : leastN D ∉ D.map Pc.n := by
  have key : ∀ (f k : Nat), k + f = D.length → FreeAt D k → leastN D ∉ D.map Pc.n := by
    intro f
    induction f with
    | zero =>
      intro k hk h
      have hn : ((k : Int) + 1) ∉ D.map Pc.n := fun hm => by have := (free_step h hm).le; omega
      rw [free_end h hn]; exact hn
    | succ f ih =>
      intro k hk h
      by_cases hm : ((k : Int) + 1) ∈ D.map Pc.n
      · exact ih (k + 1) (by omega) (free_step h hm)
      · rw [free_end h hm]; exact hm
  exact key D.length 0 (by omega) (free_zero D)
def putS (b : ByteArray) (D : List Pc) : (Int × Int) × List Pc :=
  if 32 < b.size then ((0, 2), D) else
  match posK Pc.t b D with
  | some j => match D[j]? with
    | some p => if 1000000 ≤ p.h then ((0, 6), D) else ((p.n, 0), D.set j ⟨p.n, p.t, p.h + 1⟩)
    | none => ((0, 0), D)
  | none => if 500 ≤ D.length then ((0, 6), D) else ((leastN D, 0), D ++ [⟨leastN D, b, 1⟩])
def dropS (n : Int) (D : List Pc) : Int × List Pc :=
  match posK Pc.n n D with
  | none => (4, D)
  | some j => match D[j]? with
    | some p => if 1 < p.h then (0, D.set j ⟨p.n, p.t, p.h - 1⟩) else (0, D.eraseIdx j)
    | none => (4, D)
def dropAll : List Int → List Pc → List Pc
  | [], D => D
  | n :: l, D => dropAll l (dropS n D).2
def keepS : List ByteArray → List Int → List Pc → (List Int × Int) × List Pc
  | [], out, D => ((out, 0), D)
  | b :: r, out, D => if (putS b D).1.2 = 0 then keepS r (out ++ [(putS b D).1.1]) (putS b D).2 else (([], (putS b D).1.2), dropAll out (putS b D).2)
def getS (n : Int) (D : List Pc) : Option Pc := (posK Pc.n n D).bind fun j => D[j]?
def loadS (D : List Pc) : List Int → List UInt8 → List UInt8 × Int
  | [], out => (out, 0)
  | n :: l, out => match getS n D with
    | none => ([], 4)
    | some p => loadS D l (out ++ p.t.data.toList)
def holdN (D : List Pc) (n : Int) : Int := match getS n D with | some p => p.h | none => 0
def cnt (n : Int) (l : List Int) : Nat := l.countP fun x => decide (x = n)
def freeOk (l : List Int) (D : List Pc) : Bool := l.all fun n => decide ((cnt n l : Int) ≤ holdN D n)
def freeS (l : List Int) (D : List Pc) : Int × List Pc := if freeOk l D = true then (0, dropAll l D) else (4, D)
def bytesS (D : List Pc) : Nat := (D.map fun p => p.t.size).sum
theorem getS_at {D : List Pc} (h : POk D) {j : Nat} {p : Pc} (hj : D[j]? = some p) : posK Pc.n p.n D = some j ∧ posK Pc.t p.t D = some j := ⟨posK_at h.nn hj, posK_at h.tn hj⟩
theorem getS_some {D : List Pc} {n : Int} {p : Pc} (h : getS n D = some p) : ∃ j, posK Pc.n n D = some j ∧ D[j]? = some p ∧ n = p.n := by
  unfold getS at h
  cases hj : posK Pc.n n D with
  | none => rw [hj] at h; cases h
  | some j =>
    rw [hj] at h
    obtain ⟨q, h1, h2⟩ := posK_some hj
    have h3 : D[j]? = some p := h
    rw [h1] at h3
    cases h3
    exact ⟨j, rfl, h1, h2⟩
theorem getS_none {D : List Pc} {n : Int} (h : getS n D = none) : posK Pc.n n D = none := by
  unfold getS at h
  cases hj : posK Pc.n n D with
  | none => rfl
  | some j =>
    rw [hj] at h
    obtain ⟨q, h1, _⟩ := posK_some hj
    have h3 : D[j]? = none := h
    rw [h1] at h3
    cases h3
theorem map_set_same {α β : Type} (f : α → β) {D : List α} {j : Nat} {p q : α} (hj : D[j]? = some p) (h : f q = f p) : (D.set j q).map f = D.map f := by
  rw [List.map_set, h]
  apply List.ext_getElem?
  intro i
  rw [List.getElem?_set]
  by_cases hi : j = i
  · subst hi
    obtain ⟨h1, h2⟩ := List.getElem?_eq_some_iff.1 hj
    simp [h1, h2]
  · simp [hi]
theorem pok_set {D : List Pc} (h : POk D) {j : Nat} {p : Pc} (hj : D[j]? = some p) {v : Int} (hv : 1 ≤ v ∧ v ≤ 1000000) : POk (D.set j ⟨p.n, p.t, v⟩) := by
  refine ⟨?_, ?_, fun q hq => ?_, fun q hq => ?_, by rw [List.length_set]; exact h.ln⟩
  · rw [map_set_same Pc.n (q := ⟨p.n, p.t, v⟩) hj rfl]; exact h.nn
  · rw [map_set_same Pc.t (q := ⟨p.n, p.t, v⟩) hj rfl]; exact h.tn
  · rcases List.mem_or_eq_of_mem_set hq with hq | rfl
    · exact h.hh q hq
    · exact hv
  · rcases List.mem_or_eq_of_mem_set hq with hq | rfl
    · exact h.ts q hq
    · exact h.ts p (List.mem_of_getElem? hj)
theorem pok_erase {D : List Pc} (h : POk D) (j : Nat) : POk (D.eraseIdx j) := by
  have hs := List.eraseIdx_sublist D j
  exact ⟨h.nn.sublist (hs.map _), h.tn.sublist (hs.map _), fun q hq => h.hh q (hs.subset hq), fun q hq => h.ts q (hs.subset hq), Nat.le_trans hs.length_le h.ln⟩
theorem pok_put {D : List Pc} (h : POk D) (b : ByteArray) : POk (putS b D).2 := by
  unfold putS
  split
  · exact h
  · next hb =>
    split
    · next j hj =>
      obtain ⟨p, h1, h2⟩ := posK_some hj
      rw [h1]
      dsimp only
      split
      · exact h
      · exact pok_set h h1 (by have := h.hh p (List.mem_of_getElem? h1); omega)
    · next hj =>
      split
      · exact h
      · refine ⟨?_, ?_, fun q hq => ?_, fun q hq => ?_, by simp; omega⟩
        · rw [List.map_append, List.nodup_append]
          refine ⟨h.nn, by simp, fun a ha c hc e => least_not D ?_⟩
          simp only [List.map_cons, List.map_nil, List.mem_singleton] at hc
          rw [← hc, ← e]; exact ha
        · rw [List.map_append, List.nodup_append]
          refine ⟨h.tn, by simp, fun a ha c hc e => ?_⟩
          simp only [List.map_cons, List.map_nil, List.mem_singleton] at hc
          obtain ⟨p, hp, rfl⟩ := List.mem_map.1 ha
          exact posK_none.1 hj p hp (by rw [e, hc])
        · rcases List.mem_append.1 hq with hq | hq
          · exact h.hh q hq
          · rw [List.mem_singleton.1 hq]; simp
        · rcases List.mem_append.1 hq with hq | hq
          · exact h.ts q hq
          · rw [List.mem_singleton.1 hq]; simp only; omega
theorem pok_drop {D : List Pc} (h : POk D) (n : Int) : POk (dropS n D).2 := by
  unfold dropS
  split
  · exact h
  · next j hj =>
    obtain ⟨p, h1, h2⟩ := posK_some hj
    rw [h1]
    dsimp only
    split
    · exact pok_set h h1 (by have := h.hh p (List.mem_of_getElem? h1); omega)
    · exact pok_erase h j
theorem pok_all : ∀ {l : List Int} {D : List Pc}, POk D → POk (dropAll l D)
  | [], _, h => h
  | n :: l, _, h => pok_all (l := l) (pok_drop h n)
theorem pok_keep : ∀ {r : List ByteArray} {out : List Int} {D : List Pc}, POk D → POk (keepS r out D).2
  | [], _, _, h => h
  | b :: r, out, D, h => by
    unfold keepS
    split
    · exact pok_keep (pok_put h b)
    · exact pok_all (pok_put h b)
theorem pok_free {l : List Int} {D : List Pc} (h : POk D) : POk (freeS l D).2 := by
  unfold freeS
  split
  · exact pok_all h
  · exact h
theorem cnt_snoc (n x : Int) (l : List Int) : cnt n (l ++ [x]) = cnt n l + if x = n then 1 else 0 := by
  unfold cnt
  rw [List.countP_append]
  by_cases h : x = n <;> simp [h]
theorem cnt_le (n : Int) (l : List Int) (k : Nat) : cnt n (l.take k) ≤ cnt n l := by
  unfold cnt
  exact List.Sublist.countP_le (List.take_sublist k l)
theorem take_snocI {l : List Int} {k : Nat} {x : Int} (h : l[k]? = some x) : l.take (k + 1) = l.take k ++ [x] := by
  obtain ⟨h1, rfl⟩ := List.getElem?_eq_some_iff.1 h
  exact List.take_succ_eq_append_getElem h1
/-- so far nobody asks for more than there is -/
def FreeTo (l : List Int) (D : List Pc) (k : Nat) : Prop := ∀ n ∈ l.take k, (cnt n (l.take k) : Int) ≤ holdN D n
theorem freeTo_no {l : List Int} {D : List Pc} {k : Nat} {x : Int} (hx : l[k]? = some x) (h : holdN D x < ((cnt x (l.take k) + 1 : Nat) : Int)) : freeOk l D = false := by
  unfold freeOk
  rw [List.all_eq_false]
  refine ⟨x, List.mem_of_getElem? hx, ?_⟩
  have h1 := cnt_le x l (k + 1)
  rw [take_snocI hx, cnt_snoc, if_pos rfl] at h1
  simp only [decide_eq_true_eq]
  omega
theorem freeTo_yes {l : List Int} {D : List Pc} {k : Nat} {x : Int} (hf : FreeTo l D k) (hx : l[k]? = some x) (h : ((cnt x (l.take k) + 1 : Nat) : Int) ≤ holdN D x) : FreeTo l D (k + 1) := by
  intro n hn
  rw [take_snocI hx] at hn ⊢
  rw [cnt_snoc]
  by_cases e : x = n
  · subst e; rw [if_pos rfl]; exact h
  · rw [if_neg e, Nat.add_zero]
    rcases List.mem_append.1 hn with hn | hn
    · exact hf n hn
    · exact absurd (List.mem_singleton.1 hn).symm e
theorem freeTo_end {l : List Int} {D : List Pc} (hf : FreeTo l D l.length) : freeOk l D = true := by
  unfold FreeTo at hf
  rw [List.take_length] at hf
  unfold freeOk
  rw [List.all_eq_true]
  exact fun n hn => decide_eq_true (hf n hn)
theorem free_of {l : List Int} {D : List Pc} (h : ∀ n ∈ l, (cnt n l : Int) ≤ holdN D n) : freeOk l D = true := by
  unfold freeOk
  rw [List.all_eq_true]
  exact fun n hn => decide_eq_true (h n hn)
theorem free_not {l : List Int} {D : List Pc} {n : Int} (hn : n ∈ l) (h : holdN D n < (cnt n l : Int)) : freeOk l D = false := by
  unfold freeOk
  rw [List.all_eq_false]
  exact ⟨n, hn, by simp only [decide_eq_true_eq]; omega⟩
theorem cnt_pos {l : List Int} {n : Int} (h : n ∈ l) : 0 < cnt n l := by
  unfold cnt
  exact List.countP_pos_iff.2 ⟨n, h, decide_eq_true rfl⟩
end Go.Proofs.Ytdogdjcjmhogmaa
namespace Go.Proofs.Ytdogdjcjmhogmaa
set_option maxRecDepth 100000 in
def tab : Tab :=
  (.node 119 ⟨1, 8, [.nilFunc], .other⟩ (.node 61 ⟨1, 8, [.nilFunc], .other⟩ (.node 28 ⟨1, 8, [.nilFunc], .other⟩ (.node 14 ⟨2, 24, [.string ⟨#[]⟩, .int .u64 0], (.struct [(0, 1), (1, 1)])⟩ (.node 7 ⟨4, 24, [.int .i64 0, .int .i64 0, .bool false, .int .u8 0], (.struct [(0, 1), (1, 1), (2, 1), (3, 1)])⟩ (.node 4 ⟨1, 1, [.bool false], .bool⟩ (.node 2 ⟨1, 8, [.int .i64 0], (.int .i64)⟩ (.node 1 ⟨1, 8, [.nilFunc], .other⟩ .nil .nil) (.node 3 ⟨1, 8, [.int .i64 0], (.int .i64)⟩ .nil .nil)) (.node 6 ⟨1, 1, [.int .u8 0], (.int .u8)⟩ (.node 5 ⟨1, 1, [.int .u8 0], (.int .u8)⟩ .nil .nil) .nil)) (.node 11 ⟨1, 16, [.string ⟨#[]⟩], .string⟩ (.node 9 ⟨1, 16, [.string ⟨#[]⟩], .string⟩ (.node 8 ⟨4, 24, [.int .i64 0, .int .i64 0, .bool false, .int .u8 0], (.struct [(0, 1), (1, 1), (2, 1), (3, 1)])⟩ .nil .nil) (.node 10 ⟨1, 16, [.string ⟨#[]⟩], .string⟩ .nil .nil)) (.node 13 ⟨2, 24, [.string ⟨#[]⟩, .int .u64 0], (.struct [(0, 1), (1, 1)])⟩ (.node 12 ⟨1, 8, [.int .u64 0], (.int .u64)⟩ .nil .nil) .nil))) (.node 21 ⟨1, 4, [.int .i32 0], (.int .i32)⟩ (.node 18 ⟨1, 8, [.pointer none], (.struct [(0, 1)])⟩ (.node 16 ⟨1, 8, [.pointer none], .other⟩ (.node 15 ⟨1, 8, [.pointer none], .other⟩ .nil .nil) (.node 17 ⟨1, 8, [.pointer none], .other⟩ .nil .nil)) (.node 20 ⟨1, 16, [.nilIface], .other⟩ (.node 19 ⟨1, 8, [.pointer none], (.struct [(0, 1)])⟩ .nil .nil) .nil)) (.node 24 ⟨1, 8, [.pointer none], .other⟩ (.node 23 ⟨1, 24, [.slice none 0 0], (.slice 34)⟩ (.node 22 ⟨1, 24, [.slice none 0 0], (.slice 3)⟩ .nil .nil) .nil) (.node 27 ⟨1, 8, [.nilFunc], .other⟩ (.node 25 ⟨1, 8, [.int .i64 0], (.int .i64)⟩ .nil .nil) .nil)))) (.node 43 ⟨1, 8, [.pointer none], .other⟩ (.node 36 ⟨1, 8, [.nilFunc], .other⟩ (.node 32 ⟨1, 24, [.slice none 0 0], (.slice 5)⟩ (.node 30 ⟨1, 8, [.map none], .other⟩ (.node 29 ⟨1, 8, [.nilFunc], .other⟩ .nil .nil) (.node 31 ⟨1, 8, [.map none], .other⟩ .nil .nil)) (.node 34 ⟨4, 64, [.int .i64 0, .int .i64 0, .slice none 0 0, .slice none 0 0], (.struct [(0, 1), (1, 1), (2, 1), (3, 1)])⟩ (.node 33 ⟨4, 64, [.int .i64 0, .int .i64 0, .slice none 0 0, .slice none 0 0], (.struct [(0, 1), (1, 1), (2, 1), (3, 1)])⟩ .nil .nil) .nil)) (.node 40 ⟨1, 8, [.nilFunc], .other⟩ (.node 38 ⟨1, 24, [.slice none 0 0], (.slice 22)⟩ (.node 37 ⟨1, 8, [.nilFunc], .other⟩ .nil .nil) .nil) (.node 42 ⟨1, 8, [.nilFunc], .other⟩ (.node 41 ⟨1, 8, [.nilFunc], .other⟩ .nil .nil) .nil))) (.node 53 ⟨1, 8, [.nilFunc], .other⟩ (.node 48 ⟨1, 8, [.nilFunc], .other⟩ (.node 45 ⟨1, 8, [.map none], .other⟩ (.node 44 ⟨1, 8, [.nilFunc], .other⟩ .nil .nil) (.node 46 ⟨1, 8, [.map none], .other⟩ .nil .nil)) (.node 52 ⟨1, 8, [.nilFunc], .other⟩ (.node 50 ⟨1, 8, [.nilFunc], .other⟩ .nil .nil) .nil)) (.node 57 ⟨1, 8, [.pointer none], .other⟩ (.node 56 ⟨1, 8, [.nilFunc], .other⟩ (.node 54 ⟨1, 8, [.nilFunc], .other⟩ .nil .nil) .nil) (.node 59 ⟨2, 24, [.string ⟨#[]⟩, .int .i64 0], (.struct [(0, 1), (1, 1)])⟩ (.node 58 ⟨2, 24, [.string ⟨#[]⟩, .int .i64 0], (.struct [(0, 1), (1, 1)])⟩ .nil .nil) .nil))))) (.node 91 ⟨1, 8, [.nilFunc], .other⟩ (.node 76 ⟨1, 8, [.nilFunc], .other⟩ (.node 69 ⟨5, 40, [.int .i64 0, .int .i64 0, .int .i64 0, .int .i64 0, .int .i64 0], (.struct [(0, 1), (1, 1), (2, 1), (3, 1), (4, 1)])⟩ (.node 65 ⟨4, 64, [.slice none 0 0, .slice none 0 0, .int .i64 0, .int .i64 0], (.struct [(0, 1), (1, 1), (2, 1), (3, 1)])⟩ (.node 63 ⟨1, 24, [.slice none 0 0], (.slice 70)⟩ (.node 62 ⟨1, 8, [.nilFunc], .other⟩ .nil .nil) (.node 64 ⟨1, 24, [.slice none 0 0], (.slice 71)⟩ .nil .nil)) (.node 68 ⟨1, 8, [.nilFunc], .other⟩ (.node 66 ⟨4, 64, [.slice none 0 0, .slice none 0 0, .int .i64 0, .int .i64 0], (.struct [(0, 1), (1, 1), (2, 1), (3, 1)])⟩ .nil .nil) .nil)) (.node 73 ⟨2, 16, [.int .i64 0, .int .i64 0], (.struct [(0, 1), (1, 1)])⟩ (.node 71 ⟨1, 24, [.slice none 0 0], (.slice 73)⟩ (.node 70 ⟨5, 40, [.int .i64 0, .int .i64 0, .int .i64 0, .int .i64 0, .int .i64 0], (.struct [(0, 1), (1, 1), (2, 1), (3, 1), (4, 1)])⟩ .nil .nil) (.node 72 ⟨2, 16, [.int .i64 0, .int .i64 0], (.struct [(0, 1), (1, 1)])⟩ .nil .nil)) (.node 75 ⟨1, 8, [.nilFunc], .other⟩ (.node 74 ⟨1, 8, [.nilFunc], .other⟩ .nil .nil) .nil))) (.node 84 ⟨4, 32, [.int .i64 0, .int .i64 0, .int .i64 0, .int .i64 0], (.struct [(0, 1), (1, 1), (2, 1), (3, 1)])⟩ (.node 80 ⟨5, 88, [.bool false, .slice none 0 0, .slice none 0 0, .slice none 0 0, .int .i64 0], (.struct [(0, 1), (1, 1), (2, 1), (3, 1), (4, 1)])⟩ (.node 78 ⟨1, 24, [.slice none 0 0], (.slice 38)⟩ (.node 77 ⟨1, 24, [.slice none 0 0], (.slice 84)⟩ .nil .nil) (.node 79 ⟨5, 88, [.bool false, .slice none 0 0, .slice none 0 0, .slice none 0 0, .int .i64 0], (.struct [(0, 1), (1, 1), (2, 1), (3, 1), (4, 1)])⟩ .nil .nil)) (.node 83 ⟨4, 32, [.int .i64 0, .int .i64 0, .int .i64 0, .int .i64 0], (.struct [(0, 1), (1, 1), (2, 1), (3, 1)])⟩ (.node 82 ⟨1, 8, [.nilFunc], .other⟩ .nil .nil) .nil)) (.node 87 ⟨1, 8, [.nilFunc], .other⟩ (.node 86 ⟨1, 8, [.nilFunc], .other⟩ (.node 85 ⟨1, 8, [.nilFunc], .other⟩ .nil .nil) .nil) (.node 89 ⟨1, 24, [.slice none 0 0], (.slice 93)⟩ (.node 88 ⟨1, 8, [.nilFunc], .other⟩ .nil .nil) .nil)))) (.node 104 ⟨2, 16, [.map none, .map none], (.struct [(0, 1), (1, 1)])⟩ (.node 98 ⟨5, 88, [.slice none 0 0, .bool false, .int .i64 0, .slice none 0 0, .slice none 0 0], (.struct [(0, 1), (1, 1), (2, 1), (3, 1), (4, 1)])⟩ (.node 95 ⟨1, 8, [.nilFunc], .other⟩ (.node 93 ⟨3, 32, [.int .i64 0, .int .i64 0, .string ⟨#[]⟩], (.struct [(0, 1), (1, 1), (2, 1)])⟩ (.node 92 ⟨3, 32, [.int .i64 0, .int .i64 0, .string ⟨#[]⟩], (.struct [(0, 1), (1, 1), (2, 1)])⟩ .nil .nil) (.node 94 ⟨1, 8, [.nilFunc], .other⟩ .nil .nil)) (.node 97 ⟨1, 24, [.slice none 0 0], (.slice 4)⟩ (.node 96 ⟨1, 8, [.nilFunc], .other⟩ .nil .nil) .nil)) (.node 101 ⟨1, 8, [.nilFunc], .other⟩ (.node 100 ⟨1, 8, [.nilFunc], .other⟩ (.node 99 ⟨5, 88, [.slice none 0 0, .bool false, .int .i64 0, .slice none 0 0, .slice none 0 0], (.struct [(0, 1), (1, 1), (2, 1), (3, 1), (4, 1)])⟩ .nil .nil) .nil) (.node 103 ⟨1, 8, [.map none], .other⟩ (.node 102 ⟨1, 8, [.map none], .other⟩ .nil .nil) .nil))) (.node 113 ⟨1, 24, [.slice none 0 0], (.slice 9)⟩ (.node 109 ⟨1, 8, [.nilFunc], .other⟩ (.node 107 ⟨2, 24, [.string ⟨#[]⟩, .int .i64 0], (.struct [(0, 1), (1, 1)])⟩ (.node 105 ⟨2, 16, [.map none, .map none], (.struct [(0, 1), (1, 1)])⟩ .nil .nil) (.node 108 ⟨2, 24, [.string ⟨#[]⟩, .int .i64 0], (.struct [(0, 1), (1, 1)])⟩ .nil .nil)) (.node 112 ⟨1, 8, [.nilFunc], .other⟩ (.node 111 ⟨1, 24, [.slice none 0 0], (.slice 32)⟩ .nil .nil) .nil)) (.node 116 ⟨1, 8, [.nilFunc], .other⟩ (.node 115 ⟨1, 8, [.map none], .other⟩ (.node 114 ⟨1, 8, [.nilFunc], .other⟩ .nil .nil) .nil) (.node 118 ⟨1, 8, [.pointer none], .other⟩ (.node 117 ⟨1, 8, [.nilFunc], .other⟩ .nil .nil) .nil)))))) (.node 173 ⟨1, 24, [.slice none 0 0], (.slice 201)⟩ (.node 146 ⟨1, 24, [.slice none 0 0], (.slice 145)⟩ (.node 133 ⟨2, 16, [.int .i64 0, .map none], (.struct [(0, 1), (1, 1)])⟩ (.node 126 ⟨8, 112, [.int .i64 0, .slice none 0 0, .map none, .map none, .map none, .map none, .slice none 0 0, .slice none 0 0], (.struct [(0, 1), (1, 1), (2, 1), (3, 1), (4, 1), (5, 1), (6, 1), (7, 1)])⟩ (.node 123 ⟨1, 8, [.map none], .other⟩ (.node 121 ⟨1, 8, [.map none], .other⟩ (.node 120 ⟨1, 8, [.nilFunc], .other⟩ .nil .nil) (.node 122 ⟨1, 8, [.map none], .other⟩ .nil .nil)) (.node 125 ⟨1, 24, [.slice none 0 0], (.slice 129)⟩ (.node 124 ⟨1, 8, [.map none], .other⟩ .nil .nil) .nil)) (.node 130 ⟨2, 16, [.int .i64 0, .int .i64 0], (.struct [(0, 1), (1, 1)])⟩ (.node 128 ⟨2, 16, [.int .i64 0, .int .i64 0], (.array 2 3)⟩ (.node 127 ⟨8, 112, [.int .i64 0, .slice none 0 0, .map none, .map none, .map none, .map none, .slice none 0 0, .slice none 0 0], (.struct [(0, 1), (1, 1), (2, 1), (3, 1), (4, 1), (5, 1), (6, 1), (7, 1)])⟩ .nil .nil) (.node 129 ⟨1, 24, [.slice none 0 0], (.slice 184)⟩ .nil .nil)) (.node 132 ⟨1, 8, [.pointer none], .other⟩ (.node 131 ⟨2, 16, [.int .i64 0, .int .i64 0], (.struct [(0, 1), (1, 1)])⟩ .nil .nil) .nil))) (.node 140 ⟨1, 8, [.map none], .other⟩ (.node 137 ⟨1, 24, [.slice none 0 0], (.slice 141)⟩ (.node 135 ⟨1, 24, [.slice none 0 0], (.slice 115)⟩ (.node 134 ⟨2, 16, [.int .i64 0, .map none], (.struct [(0, 1), (1, 1)])⟩ .nil .nil) (.node 136 ⟨1, 24, [.slice none 0 0], (.slice 138)⟩ .nil .nil)) (.node 139 ⟨1, 24, [.slice none 0 0], (.slice 146)⟩ (.node 138 ⟨1, 8, [.map none], .other⟩ .nil .nil) .nil)) (.node 143 ⟨2, 16, [.int .i64 0, .int .i64 0], (.struct [(0, 1), (1, 1)])⟩ (.node 142 ⟨2, 16, [.int .i64 0, .int .i64 0], (.struct [(0, 1), (1, 1)])⟩ (.node 141 ⟨1, 24, [.slice none 0 0], (.slice 143)⟩ .nil .nil) .nil) (.node 145 ⟨7, 56, [.int .i64 0, .int .i64 0, .int .i64 0, .int .i64 0, .int .i64 0, .int .i64 0, .int .i64 0], (.struct [(0, 1), (1, 1), (2, 1), (3, 1), (4, 1), (5, 1), (6, 1)])⟩ (.node 144 ⟨7, 56, [.int .i64 0, .int .i64 0, .int .i64 0, .int .i64 0, .int .i64 0, .int .i64 0, .int .i64 0], (.struct [(0, 1), (1, 1), (2, 1), (3, 1), (4, 1), (5, 1), (6, 1)])⟩ .nil .nil) .nil)))) (.node 159 ⟨1, 8, [.nilFunc], .other⟩ (.node 153 ⟨1, 8, [.nilFunc], .other⟩ (.node 150 ⟨1, 8, [.pointer none], .other⟩ (.node 148 ⟨1, 8, [.nilFunc], .other⟩ (.node 147 ⟨1, 8, [.nilFunc], .other⟩ .nil .nil) (.node 149 ⟨1, 8, [.nilFunc], .other⟩ .nil .nil)) (.node 152 ⟨1, 8, [.nilFunc], .other⟩ (.node 151 ⟨1, 8, [.nilFunc], .other⟩ .nil .nil) .nil)) (.node 156 ⟨5, 56, [.slice none 0 0, .int .i64 0, .int .i64 0, .bool false, .int .i64 0], (.struct [(0, 1), (1, 1), (2, 1), (3, 1), (4, 1)])⟩ (.node 155 ⟨1, 8, [.pointer none], .other⟩ (.node 154 ⟨1, 8, [.map none], .other⟩ .nil .nil) .nil) (.node 158 ⟨1, 8, [.map none], .other⟩ (.node 157 ⟨5, 56, [.slice none 0 0, .int .i64 0, .int .i64 0, .bool false, .int .i64 0], (.struct [(0, 1), (1, 1), (2, 1), (3, 1), (4, 1)])⟩ .nil .nil) .nil))) (.node 166 ⟨1, 16, [.nilIface], .other⟩ (.node 163 ⟨5, 32, [.int .i64 0, .int .i64 0, .bool false, .bool false, .int .i64 0], (.struct [(0, 1), (1, 1), (2, 1), (3, 1), (4, 1)])⟩ (.node 161 ⟨2, 32, [.pointer none, .slice none 0 0], (.struct [(0, 1), (1, 1)])⟩ (.node 160 ⟨1, 8, [.pointer none], .other⟩ .nil .nil) (.node 162 ⟨2, 32, [.pointer none, .slice none 0 0], (.struct [(0, 1), (1, 1)])⟩ .nil .nil)) (.node 165 ⟨1, 24, [.slice none 0 0], (.slice 164)⟩ (.node 164 ⟨5, 32, [.int .i64 0, .int .i64 0, .bool false, .bool false, .int .i64 0], (.struct [(0, 1), (1, 1), (2, 1), (3, 1), (4, 1)])⟩ .nil .nil) .nil)) (.node 170 ⟨1, 8, [.nilFunc], .other⟩ (.node 169 ⟨1, 8, [.nilFunc], .other⟩ (.node 167 ⟨1, 16, [.nilIface], .other⟩ .nil .nil) .nil) (.node 172 ⟨1, 8, [.nilFunc], .other⟩ (.node 171 ⟨1, 8, [.nilFunc], .other⟩ .nil .nil) .nil))))) (.node 201 ⟨1, 8, [.pointer none], .other⟩ (.node 187 ⟨1, 8, [.map none], .other⟩ (.node 181 ⟨2, 16, [.int .i64 0, .int .i64 0], (.struct [(0, 1), (1, 1)])⟩ (.node 178 ⟨1, 8, [.nilFunc], .other⟩ (.node 176 ⟨1, 8, [.nilFunc], .other⟩ (.node 175 ⟨1, 8, [.nilFunc], .other⟩ .nil .nil) (.node 177 ⟨1, 8, [.nilFunc], .other⟩ .nil .nil)) (.node 180 ⟨1, 8, [.nilFunc], .other⟩ (.node 179 ⟨1, 8, [.nilFunc], .other⟩ .nil .nil) .nil)) (.node 184 ⟨7, 56, [.int .i64 0, .int .i64 0, .int .i64 0, .int .i64 0, .int .i64 0, .int .i64 0, .int .i64 0], (.struct [(0, 1), (1, 1), (2, 1), (3, 1), (4, 1), (5, 2)])⟩ (.node 183 ⟨7, 56, [.int .i64 0, .int .i64 0, .int .i64 0, .int .i64 0, .int .i64 0, .int .i64 0, .int .i64 0], (.struct [(0, 1), (1, 1), (2, 1), (3, 1), (4, 1), (5, 2)])⟩ (.node 182 ⟨2, 16, [.int .i64 0, .int .i64 0], (.struct [(0, 1), (1, 1)])⟩ .nil .nil) .nil) (.node 186 ⟨1, 8, [.nilFunc], .other⟩ (.node 185 ⟨1, 8, [.nilFunc], .other⟩ .nil .nil) .nil))) (.node 194 ⟨3, 24, [.int .i64 0, .int .i64 0, .int .i64 0], (.struct [(0, 1), (1, 1), (2, 1)])⟩ (.node 191 ⟨1, 8, [.nilFunc], .other⟩ (.node 189 ⟨3, 56, [.slice none 0 0, .slice none 0 0, .map none], (.struct [(0, 1), (1, 1), (2, 1)])⟩ (.node 188 ⟨1, 24, [.slice none 0 0], (.slice 24)⟩ .nil .nil) (.node 190 ⟨3, 56, [.slice none 0 0, .slice none 0 0, .map none], (.struct [(0, 1), (1, 1), (2, 1)])⟩ .nil .nil)) (.node 193 ⟨3, 24, [.int .i64 0, .int .i64 0, .int .i64 0], (.struct [(0, 1), (1, 1), (2, 1)])⟩ (.node 192 ⟨1, 24, [.slice none 0 0], (.slice 194)⟩ .nil .nil) .nil)) (.node 198 ⟨1, 8, [.nilFunc], .other⟩ (.node 196 ⟨1, 8, [.int .u64 0], (.int .u64)⟩ (.node 195 ⟨1, 8, [.nilFunc], .other⟩ .nil .nil) .nil) (.node 200 ⟨1, 8, [.nilFunc], .other⟩ (.node 199 ⟨1, 8, [.pointer none], .other⟩ .nil .nil) .nil)))) (.node 217 ⟨1, 8, [.nilFunc], .other⟩ (.node 210 ⟨1, 8, [.nilFunc], .other⟩ (.node 205 ⟨1, 8, [.nilFunc], .other⟩ (.node 203 ⟨5, 64, [.int .i64 0, .int .i64 0, .string ⟨#[]⟩, .slice none 0 0, .int .i64 0], (.struct [(0, 3), (3, 1), (4, 1)])⟩ (.node 202 ⟨5, 64, [.int .i64 0, .int .i64 0, .string ⟨#[]⟩, .slice none 0 0, .int .i64 0], (.struct [(0, 3), (3, 1), (4, 1)])⟩ .nil .nil) (.node 204 ⟨1, 8, [.nilFunc], .other⟩ .nil .nil)) (.node 208 ⟨1, 4, [.int .u32 0], (.int .u32)⟩ (.node 207 ⟨1, 8, [.nilFunc], .other⟩ .nil .nil) .nil)) (.node 214 ⟨1, 8, [.nilFunc], .other⟩ (.node 213 ⟨1, 8, [.nilFunc], .other⟩ (.node 211 ⟨1, 8, [.int .u64 0], (.int .u64)⟩ .nil .nil) .nil) (.node 216 ⟨1, 8, [.nilFunc], .other⟩ (.node 215 ⟨1, 8, [.nilFunc], .other⟩ .nil .nil) .nil))) (.node 224 ⟨1, 1, [.int .u8 0], (.int .u8)⟩ (.node 221 ⟨0, 0, [], (.struct [(0, 0)])⟩ (.node 219 ⟨4, 40, [.pointer none, .pointer none, .pointer none, .string ⟨#[]⟩], (.struct [(0, 1), (1, 1), (2, 1), (3, 1)])⟩ (.node 218 ⟨4, 40, [.pointer none, .pointer none, .pointer none, .string ⟨#[]⟩], (.struct [(0, 1), (1, 1), (2, 1), (3, 1)])⟩ .nil .nil) (.node 220 ⟨0, 0, [], (.array 0 16)⟩ .nil .nil)) (.node 223 ⟨1, 1, [.int .u8 0], (.int .u8)⟩ (.node 222 ⟨0, 0, [], (.struct [(0, 0)])⟩ .nil .nil) .nil)) (.node 227 ⟨1, 4, [.int .i32 0], (.int .i32)⟩ (.node 226 ⟨1, 4, [.int .i32 0], (.int .i32)⟩ (.node 225 ⟨1, 8, [.nilFunc], .other⟩ .nil .nil) .nil) (.node 229 ⟨11, 48, [.int .u64 0, .int .u64 0, .int .u32 0, .int .u8 0, .int .u8 0, .int .u8 0, .int .u8 0, .nilFunc, .pointer none, .int .i32 0, .int .i32 0], (.struct [(0, 1), (1, 1), (2, 1), (3, 1), (4, 1), (5, 1), (6, 1), (7, 1), (8, 1), (9, 1), (10, 1)])⟩ (.node 228 ⟨11, 48, [.int .u64 0, .int .u64 0, .int .u32 0, .int .u8 0, .int .u8 0, .int .u8 0, .int .u8 0, .nilFunc, .pointer none, .int .i32 0, .int .i32 0], (.struct [(0, 1), (1, 1), (2, 1), (3, 1), (4, 1), (5, 1), (6, 1), (7, 1), (8, 1), (9, 1), (10, 1)])⟩ .nil .nil) .nil)))))))
set_option maxRecDepth 100000 in
theorem tabOkB : tab.okB Try.prog = true := by kernel_rfl
theorem tok : TabOk Try.prog tab := tab_ok tabOkB
end Go.Proofs.Ytdogdjcjmhogmaa
namespace Go.Proofs.Ytdogdjcjmhogmaa
open Go.RowKit
def pieT (p : Pc) : T := .agg [.lit (.string p.t), .lit (.int .i64 p.h)]
def numT (p : Pc) : T := .lit (.int .i64 p.n)
@[reducible] def shP (b bp bn : Nat) (D : List Pc) : List Blk := [.box b 105 [.own 1 (.map (some bp)), .own 2 (.map (some bn))], .mp bp (mkeys (Value.int .i64) (assoc Pc.n pieT D)), .mp bn (mkeys Value.string (assoc Pc.t numT D))]
set_option maxRecDepth 100000 in
set_option maxHeartbeats 1000000 in
theorem shNew_ag : AG Try.prog 15 [] [] (fun r hs => ∃ b bp bn, r = .ptr 0 b 0 ∧ hs = shP b bp bn []) := by
  refine ag_enter (3) tok Try.func15 Try.ntmps15 Try.results15 rfl (by kernel_rfl) rfl fun F => ?_
  repeat (first | refine gG ?_ | refine zBx (fun _ => ?_))
  refine zMm (fun bp => ?_)
  repeat (first | refine gG ?_ | refine zBx (fun _ => ?_))
  refine zMm (fun bn => ?_)
  repeat (first | refine gO ?_ | refine zBx (fun _ => ?_) | refine ac_seq ?_ | refine ac_block ?_ | refine ac_region ?_ | refine ac_skip ?_)
  refine x_pick [2, 0, 1] ?_
  refine x_boxR 0 [.own 1 (.map (some bp)), .own 2 (.map (some bn))] ?_ rfl (res_cons re_own (res_cons re_own res_nil)) rfl
  refine x_reptr 0 0 rfl ?_
  refine ac_ret ?_
  refine zG ?_
  exact ⟨_, bp, bn, rfl, rfl⟩
theorem nope {D : List Pc} {n : Int} (h : n ∉ D.map Pc.n) : posK Pc.n n D = none := posK_none.2 fun p hp e => h (List.mem_map.2 ⟨p, hp, e.symm⟩)
theorem yep {D : List Pc} {n : Int} (h : n ∈ D.map Pc.n) : ∃ j p, posK Pc.n n D = some j ∧ D[j]? = some p := by
  cases hj : posK Pc.n n D with
  | none =>
    obtain ⟨p, hp, e⟩ := List.mem_map.1 h
    exact absurd e.symm (posK_none.1 hj p hp)
  | some j =>
    obtain ⟨p, h1, _⟩ := posK_some hj
    exact ⟨j, p, rfl, h1⟩
set_option maxRecDepth 100000 in
set_option maxHeartbeats 2000000 in
theorem free_ag (b bp bn : Nat) (D : List Pc) (hD : POk D) : AG Try.prog 46 [.ptr 0 b 0] (shP b bp bn D) (fun r hs => r = .c (.lit (.int .i64 (leastN D))) ∧ hs = shP b bp bn D) := by
  refine ag_enter (3) tok Try.func46 Try.ntmps46 Try.results46 rfl (by kernel_rfl) rfl fun F => ?_
  repeat (first | refine gG ?_)
  refine x_loop [3, 4, 5, 6, 7, 8, 9, 10, 11, 12, 13] (fun k : Nat => [(3, .c (.lit (.int .i64 ((k + 1 : Nat) : Int))))]) (fun _ => shP b bp bn D) (FreeAt D) (fun k => D.length + 1 - k) 0 (free_zero D) ⟨rfl, trivial⟩ rfl ?_
  intro k hk
  have hle := hk.le
  have hln := hD.ln
  have hg := get_pos Pc.n pieT ((k + 1 : Nat) : Int) D
  by_cases hm : ((k : Int) + 1) ∈ D.map Pc.n
  · have hst := free_step hk hm
    have hle2 := hst.le
    obtain ⟨j, p, h1, h2⟩ := yep hm
    rw [show (((k + 1 : Nat) : Int)) = (k : Int) + 1 by omega] at hg
    rw [h1] at hg
    have hlk : (mget ((k + 1 : Nat) : Int) (assoc Pc.n pieT D)).getD (.agg [.lit (.string ⟨#[]⟩), .lit (.int .i64 0)]) = pieT p := by
      rw [show (((k + 1 : Nat) : Int)) = (k : Int) + 1 by omega, hg]
      simp [h2]
    have hpos : decide ((0 : Int) < p.h) = true := decide_eq_true (by have := hD.hh p (List.mem_of_getElem? h2); omega)
    clear hk hm h1 h2 hg hD
    repeat (first | refine gG ?_)
    refine zLkin 3 108 hlk ?_
    repeat (first | refine gG ?_)
    refine zFd1 3 ?_
    repeat (first | refine gG ?_)
    exact ⟨k + 1, hst, by omega, x_wkd 3 ⟨rfl, trivial⟩ rfl (by repeat (first | exact ag_refl | refine ag_upd rfl ?_ | refine ag_at rfl rfl ?_))⟩
  · have hend := free_end hk hm
    have hlk : (mget ((k + 1 : Nat) : Int) (assoc Pc.n pieT D)).getD (.agg [.lit (.string ⟨#[]⟩), .lit (.int .i64 0)]) = .agg [.lit (.string ⟨#[]⟩), .lit (.int .i64 0)] := by
      rw [hg, show (((k + 1 : Nat) : Int)) = (k : Int) + 1 by omega, nope hm]; rfl
    clear hk hm hg hD
    repeat (first | refine gG ?_)
    refine zLkin 3 108 hlk ?_
    repeat (first | refine gG ?_)
    refine zFd1 3 ?_
    repeat (first | refine gG ?_)
    refine zG ?_
    exact ⟨by rw [hend]; rfl, rfl⟩
theorem bsz (d : List UInt8) : (⟨d.toArray⟩ : ByteArray).size = d.length := rfl
def ShTells (n e : Int) (b bp bn : Nat) (D : List Pc) (r : AV) (hs : List Blk) : Prop := r = .tup [.c (.lit (.int .i64 n)), .c (.lit (.int .i64 e))] ∧ hs = shP b bp bn D
set_option maxRecDepth 100000 in
set_option maxHeartbeats 4000000 in
theorem put_ag (b bp bn : Nat) (D : List Pc) (hD : POk D) (d : List UInt8) : AG Try.prog 16 [.ptr 0 b 0, .c (bytRow d)] (shP b bp bn D) (ShTells (putS ⟨d.toArray⟩ D).1.1 (putS ⟨d.toArray⟩ D).1.2 b bp bn (putS ⟨d.toArray⟩ D).2) := by
  have hln := hD.ln
  have hE := putS.eq_1 (⟨d.toArray⟩ : ByteArray) D
  rw [bsz] at hE
  have hgt := get_pos Pc.t numT (⟨d.toArray⟩ : ByteArray) D
  cases hj : posK Pc.t (⟨d.toArray⟩ : ByteArray) D with
  | some j =>
    obtain ⟨p, h1, h2⟩ := posK_some hj
    have hpn := (getS_at hD h1).1
    have hgn := get_pos Pc.n pieT p.n D
    rw [hj] at hE hgt
    rw [hpn] at hgn
    simp only [h1, Option.bind_some, Option.map_some] at hE hgt hgn
    have hlt : (mget (⟨d.toArray⟩ : ByteArray) (assoc Pc.t numT D)).getD (.lit (.int .i64 0)) = .lit (.int .i64 p.n) := by rw [hgt]; rfl
    have hltc : (mget (⟨d.toArray⟩ : ByteArray) (assoc Pc.t numT D)).isSome = true := by rw [hgt]; rfl
    have hln' : (mget p.n (assoc Pc.n pieT D)).getD (.agg [.lit (.string ⟨#[]⟩), .lit (.int .i64 0)]) = pieT p := by rw [hgn]; rfl
    have hh := hD.hh p (List.mem_of_getElem? h1)
    have hu1 : mput p.n (pieT ⟨p.n, ⟨d.toArray⟩, p.h + 1⟩) (assoc Pc.n pieT D) = assoc Pc.n pieT (D.set j ⟨p.n, p.t, p.h + 1⟩) := by
      rw [put_old _ hpn, h2]
      exact assoc_set Pc.n pieT D j ⟨p.n, p.t, p.h + 1⟩
    have hu2 : mput (⟨d.toArray⟩ : ByteArray) (.lit (.int .i64 p.n)) (assoc Pc.t numT D) = assoc Pc.t numT (D.set j ⟨p.n, p.t, p.h + 1⟩) := by
      rw [put_old _ hj, h2]
      exact assoc_set Pc.t numT D j ⟨p.n, p.t, p.h + 1⟩
    generalize putS ⟨d.toArray⟩ D = Q at *
    generalize D.set j ⟨p.n, p.t, p.h + 1⟩ = D' at *
    clear hj hpn hgn hgt hD h1 h2
    cases d0 : decide ((32 : Int) < ((d.length : Nat) : Int))
    rotate_left
    · rw [if_pos (by have := of_decide_eq_true d0; omega)] at hE
      subst hE
      refine ag_enter (3) tok Try.func16 Try.ntmps16 Try.results16 rfl (by kernel_rfl) rfl fun F => ?_
      repeat (first | refine gG ?_ | refine zN1 (fun hlen => ?_) | refine zN2 (fun hlen => ?_))
      refine ac_draw [1, 1, 1, 1, 1, 1, 1, 1, 1, 1, 1, 1] [0, 1, 2, 3, 4, 5, 6, 7, 8, 9, 10, 11] (by kernel_rfl) (by kernel_rfl) ?_
      refine gW ?_
      apply w_q; (focus exact rfl); (focus exact rfl); focus (intro _; (refine zStr d rfl rfl ?_); exact det_refl)
      apply w_q; (focus exact rfl); (focus exact rfl); focus (intro _; (refine zLkso 9 3 hlt hltc ?_); exact det_refl)
      refine gW ?_
      refine w_nil ?_
      repeat (first | refine gG ?_ | refine zN1 (fun hlen => ?_) | refine zN2 (fun hlen => ?_))
      refine zG ?_
      exact ⟨rfl, rfl⟩
    rw [if_neg (by have := of_decide_eq_false d0; omega)] at hE
    obtain ⟨pn, pt, ph⟩ := p
    dsimp only at hE hh hln' hu1 hu2 hlt
    cases d1 : decide (ph = 1000000)
    · rw [if_neg (by have := of_decide_eq_false d1; omega)] at hE
      subst hE
      refine ag_enter (3) tok Try.func16 Try.ntmps16 Try.results16 rfl (by kernel_rfl) rfl fun F => ?_
      repeat (first | refine gG ?_ | refine zN1 (fun hlen => ?_) | refine zN2 (fun hlen => ?_))
      refine ac_draw [1, 1, 1, 1, 1, 1, 1, 1, 1, 1, 1, 1] [0, 1, 2, 3, 4, 5, 6, 7, 8, 9, 10, 11] (by kernel_rfl) (by kernel_rfl) ?_
      refine gW ?_
      apply w_q; (focus exact rfl); (focus exact rfl); focus (intro _; (refine zStr d rfl rfl ?_); exact det_refl)
      apply w_q; (focus exact rfl); (focus exact rfl); focus (intro _; (refine zLkso 9 3 hlt hltc ?_); exact det_refl)
      refine gW ?_
      refine w_nil ?_
      repeat (first | refine gG ?_ | refine zN1 (fun hlen => ?_) | refine zN2 (fun hlen => ?_))
      refine zLkin 3 108 hln' ?_
      repeat (first | refine gG ?_ | refine zN1 (fun hlen => ?_) | refine zN2 (fun hlen => ?_))
      refine zFd1 3 ?_
      repeat (first | refine gG ?_ | refine zN1 (fun hlen => ?_) | refine zN2 (fun hlen => ?_))
      refine ac_draw [1, 1, 1, 1, 1, 1, 1, 1, 1, 1, 1, 1, 1, 1, 1, 1, 2] [0, 1, 2, 3, 4, 5, 6, 7, 8, 9, 10, 11, 12, 13, 14, 15, 16] (by kernel_rfl) (by kernel_rfl) ?_
      refine gW ?_
      apply w_q; (focus exact rfl); (focus exact rfl); focus (intro _; (refine zStr d rfl rfl ?_); exact det_refl)
      refine gW ?_
      apply w_q; (focus exact rfl); (focus exact rfl); focus (intro _; (refine zLkin 3 108 hln' ?_); exact det_refl)
      apply w_q; (focus exact rfl); (focus exact rfl); focus (intro _; (refine zFd1 3 ?_); exact det_refl)
      apply w_q; (focus exact rfl); (focus exact rfl); focus (intro _; (refine lo_add rfl rfl (r := ph + 1) (by show IntKind.wrap .i64 (ph + 1) = ph + 1; exact IntWalk.i64_in _ (by omega)) ?_); exact det_refl)
      refine gW ?_
      apply w_l; (focus exact rfl); (focus exact rfl); (refine zUpti 3 108 (t := pieT ⟨pn, ⟨d.toArray⟩, ph + 1⟩) hu1 ?_)
      refine w_nil ?_
      repeat (first | refine gG ?_ | refine zN1 (fun hlen => ?_) | refine zN2 (fun hlen => ?_))
      refine ac_draw [1, 1, 1, 1, 1, 1, 1, 2] [0, 1, 2, 3, 4, 5, 6, 7] (by kernel_rfl) (by kernel_rfl) ?_
      refine gW ?_
      apply w_q; (focus exact rfl); (focus exact rfl); focus (intro _; (refine zStr d rfl rfl ?_); exact det_refl)
      refine gW ?_
      apply w_l; (focus exact rfl); (focus exact rfl); (refine zUpt 9 3 hu2 ?_)
      refine w_nil ?_
      repeat (first | refine gG ?_ | refine zN1 (fun hlen => ?_) | refine zN2 (fun hlen => ?_))
      refine zG ?_
      exact ⟨rfl, rfl⟩
    · rw [if_pos (by have := of_decide_eq_true d1; omega)] at hE
      subst hE
      refine ag_enter (3) tok Try.func16 Try.ntmps16 Try.results16 rfl (by kernel_rfl) rfl fun F => ?_
      repeat (first | refine gG ?_ | refine zN1 (fun hlen => ?_) | refine zN2 (fun hlen => ?_))
      refine ac_draw [1, 1, 1, 1, 1, 1, 1, 1, 1, 1, 1, 1] [0, 1, 2, 3, 4, 5, 6, 7, 8, 9, 10, 11] (by kernel_rfl) (by kernel_rfl) ?_
      refine gW ?_
      apply w_q; (focus exact rfl); (focus exact rfl); focus (intro _; (refine zStr d rfl rfl ?_); exact det_refl)
      apply w_q; (focus exact rfl); (focus exact rfl); focus (intro _; (refine zLkso 9 3 hlt hltc ?_); exact det_refl)
      refine gW ?_
      refine w_nil ?_
      repeat (first | refine gG ?_ | refine zN1 (fun hlen => ?_) | refine zN2 (fun hlen => ?_))
      refine zLkin 3 108 hln' ?_
      repeat (first | refine gG ?_ | refine zN1 (fun hlen => ?_) | refine zN2 (fun hlen => ?_))
      refine zFd1 3 ?_
      repeat (first | refine gG ?_ | refine zN1 (fun hlen => ?_) | refine zN2 (fun hlen => ?_))
      refine zG ?_
      exact ⟨rfl, rfl⟩
  | none =>
    rw [hj] at hE hgt
    simp only [Option.bind_none, Option.map_none] at hE hgt
    have hlt : (mget (⟨d.toArray⟩ : ByteArray) (assoc Pc.t numT D)).getD (.lit (.int .i64 0)) = .lit (.int .i64 0) := by rw [hgt]; rfl
    have hltc : (mget (⟨d.toArray⟩ : ByteArray) (assoc Pc.t numT D)).isSome = false := by rw [hgt]; rfl
    have hno := nope (least_not D)
    have hgn := get_pos Pc.n pieT (leastN D) D
    rw [hno] at hgn
    simp only [Option.bind_none, Option.map_none] at hgn
    have hln' : (mget (leastN D) (assoc Pc.n pieT D)).getD (.agg [.lit (.string ⟨#[]⟩), .lit (.int .i64 0)]) = .agg [.lit (.string ⟨#[]⟩), .lit (.int .i64 0)] := by rw [hgn]; rfl
    have hf := free_ag b bp bn D hD
    have hu1 : mput (leastN D) (pieT ⟨leastN D, ⟨d.toArray⟩, 1⟩) (assoc Pc.n pieT D) = assoc Pc.n pieT (D ++ [⟨leastN D, ⟨d.toArray⟩, 1⟩]) := by
      rw [put_new _ hno]
      exact assoc_app Pc.n pieT D ⟨leastN D, ⟨d.toArray⟩, 1⟩
    have hu2 : mput (⟨d.toArray⟩ : ByteArray) (.lit (.int .i64 (leastN D))) (assoc Pc.t numT D) = assoc Pc.t numT (D ++ [⟨leastN D, ⟨d.toArray⟩, 1⟩]) := by
      rw [put_new _ hj]
      exact assoc_app Pc.t numT D ⟨leastN D, ⟨d.toArray⟩, 1⟩
    have hal : (assoc Pc.n pieT D).length = D.length := assoc_len _ _ _
    generalize putS ⟨d.toArray⟩ D = Q at *
    generalize leastN D = z at *
    generalize D ++ [⟨z, ⟨d.toArray⟩, 1⟩] = D' at *
    clear hj hno hgn hgt hD
    cases d0 : decide ((32 : Int) < ((d.length : Nat) : Int))
    rotate_left
    · rw [if_pos (by have := of_decide_eq_true d0; omega)] at hE
      subst hE
      refine ag_enter (3) tok Try.func16 Try.ntmps16 Try.results16 rfl (by kernel_rfl) rfl fun F => ?_
      repeat (first | refine gG ?_ | refine zN1 (fun hlen => ?_) | refine zN2 (fun hlen => ?_))
      refine ac_draw [1, 1, 1, 1, 1, 1, 1, 1, 1, 1, 1, 1] [0, 1, 2, 3, 4, 5, 6, 7, 8, 9, 10, 11] (by kernel_rfl) (by kernel_rfl) ?_
      refine gW ?_
      apply w_q; (focus exact rfl); (focus exact rfl); focus (intro _; (refine zStr d rfl rfl ?_); exact det_refl)
      apply w_q; (focus exact rfl); (focus exact rfl); focus (intro _; (refine zLkso 9 3 hlt hltc ?_); exact det_refl)
      refine gW ?_
      refine w_nil ?_
      repeat (first | refine gG ?_ | refine zN1 (fun hlen => ?_) | refine zN2 (fun hlen => ?_))
      refine zG ?_
      exact ⟨rfl, rfl⟩
    rw [if_neg (by have := of_decide_eq_false d0; omega)] at hE
    cases d1 : decide ((((assoc Pc.n pieT D).length : Nat) : Int) = 500)
    · rw [if_neg (by have := of_decide_eq_false d1; omega)] at hE
      subst hE
      refine ag_enter (3) tok Try.func16 Try.ntmps16 Try.results16 rfl (by kernel_rfl) rfl fun F => ?_
      repeat (first | refine gG ?_ | refine zN1 (fun hlen => ?_) | refine zN2 (fun hlen => ?_))
      refine ac_draw [1, 1, 1, 1, 1, 1, 1, 1, 1, 1, 1, 1] [0, 1, 2, 3, 4, 5, 6, 7, 8, 9, 10, 11] (by kernel_rfl) (by kernel_rfl) ?_
      refine gW ?_
      apply w_q; (focus exact rfl); (focus exact rfl); focus (intro _; (refine zStr d rfl rfl ?_); exact det_refl)
      apply w_q; (focus exact rfl); (focus exact rfl); focus (intro _; (refine zLkso 9 3 hlt hltc ?_); exact det_refl)
      refine gW ?_
      refine w_nil ?_
      repeat (first | refine gG ?_ | refine zN1 (fun hlen => ?_) | refine zN2 (fun hlen => ?_))
      refine zMl (kT := 3) (eT := 108) ?_
      repeat (first | refine gG ?_ | refine zN1 (fun hlen => ?_) | refine zN2 (fun hlen => ?_))
      refine zCallG [0, 1, 2] hf ?_
      rintro _ _ ⟨rfl, rfl⟩
      refine ⟨_, _, re_refl, rfl, rfl, ?_⟩
      repeat (first | refine gG ?_ | refine zN1 (fun hlen => ?_) | refine zN2 (fun hlen => ?_))
      refine ac_draw [1, 1, 1, 1, 1, 1, 1, 1, 1, 1, 1, 1, 1, 1, 1, 1, 2] [0, 1, 2, 3, 4, 5, 6, 7, 8, 9, 10, 11, 12, 13, 14, 15, 16] (by kernel_rfl) (by kernel_rfl) ?_
      refine gW ?_
      apply w_q; (focus exact rfl); (focus exact rfl); focus (intro _; (refine zStr d rfl rfl ?_); exact det_refl)
      refine gW ?_
      apply w_q; (focus exact rfl); (focus exact rfl); focus (intro _; (refine zLkin 3 108 hln' ?_); exact det_refl)
      apply w_q; (focus exact rfl); (focus exact rfl); focus (intro _; (refine zFd1 3 ?_); exact det_refl)
      apply w_q; (focus exact rfl); (focus exact rfl); focus (intro _; (refine lo_add rfl rfl (r := 1) rfl ?_); exact det_refl)
      refine gW ?_
      apply w_l; (focus exact rfl); (focus exact rfl); (refine zUpti 3 108 (t := pieT ⟨z, ⟨d.toArray⟩, 1⟩) hu1 ?_)
      refine w_nil ?_
      repeat (first | refine gG ?_ | refine zN1 (fun hlen => ?_) | refine zN2 (fun hlen => ?_))
      refine ac_draw [1, 1, 1, 1, 1, 1, 1, 2] [0, 1, 2, 3, 4, 5, 6, 7] (by kernel_rfl) (by kernel_rfl) ?_
      refine gW ?_
      apply w_q; (focus exact rfl); (focus exact rfl); focus (intro _; (refine zStr d rfl rfl ?_); exact det_refl)
      refine gW ?_
      apply w_l; (focus exact rfl); (focus exact rfl); (refine zUpt 9 3 hu2 ?_)
      refine w_nil ?_
      repeat (first | refine gG ?_ | refine zN1 (fun hlen => ?_) | refine zN2 (fun hlen => ?_))
      refine zG ?_
      exact ⟨rfl, rfl⟩
    · rw [if_pos (by have := of_decide_eq_true d1; omega)] at hE
      subst hE
      refine ag_enter (3) tok Try.func16 Try.ntmps16 Try.results16 rfl (by kernel_rfl) rfl fun F => ?_
      repeat (first | refine gG ?_ | refine zN1 (fun hlen => ?_) | refine zN2 (fun hlen => ?_))
      refine ac_draw [1, 1, 1, 1, 1, 1, 1, 1, 1, 1, 1, 1] [0, 1, 2, 3, 4, 5, 6, 7, 8, 9, 10, 11] (by kernel_rfl) (by kernel_rfl) ?_
      refine gW ?_
      apply w_q; (focus exact rfl); (focus exact rfl); focus (intro _; (refine zStr d rfl rfl ?_); exact det_refl)
      apply w_q; (focus exact rfl); (focus exact rfl); focus (intro _; (refine zLkso 9 3 hlt hltc ?_); exact det_refl)
      refine gW ?_
      refine w_nil ?_
      repeat (first | refine gG ?_ | refine zN1 (fun hlen => ?_) | refine zN2 (fun hlen => ?_))
      refine zMl (kT := 3) (eT := 108) ?_
      repeat (first | refine gG ?_ | refine zN1 (fun hlen => ?_) | refine zN2 (fun hlen => ?_))
      refine zG ?_
      exact ⟨rfl, rfl⟩
end Go.Proofs.Ytdogdjcjmhogmaa
namespace Go.Proofs.Ytdogdjcjmhogmaa
open Go.RowKit
def zPc : T := .agg [.lit (.string ⟨#[]⟩), .lit (.int .i64 0)]
theorem look_n {D : List Pc} (n : Int) : (getS n D = none ∧ (mget n (assoc Pc.n pieT D)).getD zPc = zPc ∧ (mget n (assoc Pc.n pieT D)).isSome = false) ∨ ∃ p, getS n D = some p ∧ (mget n (assoc Pc.n pieT D)).getD zPc = pieT p ∧ (mget n (assoc Pc.n pieT D)).isSome = true := by
  have hg := get_pos Pc.n pieT n D
  cases h : getS n D with
  | none => exact .inl ⟨rfl, by rw [hg, getS_none h]; rfl, by rw [hg, getS_none h]; rfl⟩
  | some p =>
    obtain ⟨j, h1, h2, _⟩ := getS_some h
    exact .inr ⟨p, rfl, by rw [hg, h1, Option.bind_some, h2]; rfl, by rw [hg, h1, Option.bind_some, h2]; rfl⟩
set_option maxRecDepth 100000 in
set_option maxHeartbeats 4000000 in
theorem drop_ag (b bp bn : Nat) (D : List Pc) (hD : POk D) (n : Int) : AG Try.prog 18 [.ptr 0 b 0, .c (.lit (.int .i64 n))] (shP b bp bn D) (fun r hs => r = .c (.lit (.int .i64 (dropS n D).1)) ∧ hs = shP b bp bn (dropS n D).2) := by
  have hE := dropS.eq_1 n D
  have hg := get_pos Pc.n pieT n D
  cases hj : posK Pc.n n D with
  | none =>
    rw [hj] at hE hg
    simp only [Option.bind_none, Option.map_none] at hE hg
    have hlt : (mget n (assoc Pc.n pieT D)).getD (.agg [.lit (.string ⟨#[]⟩), .lit (.int .i64 0)]) = .agg [.lit (.string ⟨#[]⟩), .lit (.int .i64 0)] := by rw [hg]; rfl
    have hltc : (mget n (assoc Pc.n pieT D)).isSome = false := by rw [hg]; rfl
    generalize dropS n D = Q at *
    subst hE
    clear hj hg hD
    refine ag_enter (3) tok Try.func18 Try.ntmps18 Try.results18 rfl (by kernel_rfl) rfl fun F => ?_
    repeat (first | refine gG ?_ | refine zAl (fun _ => ?_))
    refine zLkia 3 108 hlt hltc ?_
    repeat (first | refine gG ?_ | refine zAl (fun _ => ?_))
    refine zG ?_
    exact ⟨rfl, rfl⟩
  | some j =>
    obtain ⟨p, h1, h2⟩ := posK_some hj
    subst h2
    have hpt := (getS_at hD h1).2
    have hh := hD.hh p (List.mem_of_getElem? h1)
    rw [hj] at hE hg
    simp only [h1, Option.bind_some, Option.map_some] at hE hg
    have hlt : (mget p.n (assoc Pc.n pieT D)).getD (.agg [.lit (.string ⟨#[]⟩), .lit (.int .i64 0)]) = pieT p := by rw [hg]; rfl
    have hltc : (mget p.n (assoc Pc.n pieT D)).isSome = true := by rw [hg]; rfl
    have hu1 : mput p.n (pieT ⟨p.n, p.t, p.h - 1⟩) (assoc Pc.n pieT D) = assoc Pc.n pieT (D.set j ⟨p.n, p.t, p.h - 1⟩) := by
      rw [put_old _ hj]
      exact assoc_set Pc.n pieT D j ⟨p.n, p.t, p.h - 1⟩
    have hu2 : assoc Pc.t numT (D.set j ⟨p.n, p.t, p.h - 1⟩) = assoc Pc.t numT D := map_set_same (fun p : Pc => (p.t, numT p)) (q := ⟨p.n, p.t, p.h - 1⟩) h1 rfl
    have hd1 : mdel p.n (assoc Pc.n pieT D) = assoc Pc.n pieT (D.eraseIdx j) := del_old hj
    have hd2 : mdel p.t (assoc Pc.t numT D) = assoc Pc.t numT (D.eraseIdx j) := del_old hpt
    generalize dropS p.n D = Q at *
    generalize D.set j ⟨p.n, p.t, p.h - 1⟩ = D' at *
    generalize D.eraseIdx j = D'' at *
    clear hj hg hD h1 hpt
    obtain ⟨pn, pt, ph⟩ := p
    dsimp only at hE hh hlt hltc hu1 hd1 hd2 ⊢
    cases d0 : decide ((0 : Int) < ph - 1)
    · rw [if_neg (by have := of_decide_eq_false d0; omega)] at hE
      subst hE
      refine ag_enter (3) tok Try.func18 Try.ntmps18 Try.results18 rfl (by kernel_rfl) rfl fun F => ?_
      repeat (first | refine gG ?_ | refine zAl (fun _ => ?_))
      refine zLkia 3 108 hlt hltc ?_
      repeat (first | refine gG ?_ | refine zAl (fun _ => ?_))
      refine lo_sub rfl rfl (r := ph - 1) (by show IntKind.wrap .i64 (ph - 1) = ph - 1; exact IntWalk.i64_in _ (by omega)) ?_
      repeat (first | refine gG ?_ | refine zAl (fun _ => ?_))
      refine zDelti 3 108 hd1 ?_
      repeat (first | refine gG ?_ | refine zAl (fun _ => ?_))
      refine ac_draw [1, 1, 1, 1, 1, 1, 2] [0, 1, 2, 3, 4, 5, 6] (by kernel_rfl) (by kernel_rfl) ?_
      refine gW ?_
      apply w_l; (focus exact rfl); (focus exact rfl); (refine zDelt 9 3 hd2 ?_)
      refine w_nil ?_
      repeat (first | refine gG ?_ | refine zAl (fun _ => ?_))
      refine zG ?_
      exact ⟨rfl, rfl⟩
    · rw [if_pos (by have := of_decide_eq_true d0; omega)] at hE
      subst hE
      refine ag_enter (3) tok Try.func18 Try.ntmps18 Try.results18 rfl (by kernel_rfl) rfl fun F => ?_
      repeat (first | refine gG ?_ | refine zAl (fun _ => ?_))
      refine zLkia 3 108 hlt hltc ?_
      repeat (first | refine gG ?_ | refine zAl (fun _ => ?_))
      refine lo_sub rfl rfl (r := ph - 1) (by show IntKind.wrap .i64 (ph - 1) = ph - 1; exact IntWalk.i64_in _ (by omega)) ?_
      repeat (first | refine gG ?_ | refine zAl (fun _ => ?_))
      refine ac_draw [1, 1, 1, 1, 1, 1, 2] [0, 1, 2, 3, 4, 5, 6] (by kernel_rfl) (by kernel_rfl) ?_
      refine gW ?_
      apply w_l; (focus exact rfl); (focus exact rfl); (refine zUpti 3 108 (t := pieT ⟨pn, pt, ph - 1⟩) hu1 ?_)
      refine w_nil ?_
      repeat (first | refine gG ?_ | refine zAl (fun _ => ?_))
      refine zG ?_
      exact ⟨rfl, by rw [shP, hu2]⟩
set_option maxRecDepth 100000 in
set_option maxHeartbeats 4000000 in
theorem get_none_ag (b bp bn : Nat) (D : List Pc) (n : Int) (h : getS n D = none) : AG Try.prog 27 [.ptr 0 b 0, .c (.lit (.int .i64 n))] (shP b bp bn D) (fun r hs => r = .tup [.c (.lit (.slice none 0 0)), .c (.lit (.int .i64 0)), .c (.lit (.int .i64 4))] ∧ hs = shP b bp bn D) := by
  rcases look_n (D := D) n with ⟨_, h1, h2⟩ | ⟨p, h1, _, _⟩
  · refine ag_enter (3) tok Try.func27 Try.ntmps27 Try.results27 rfl (by kernel_rfl) rfl fun F => ?_
    repeat (first | refine gG ?_ | refine zAl (fun _ => ?_))
    refine zLkia 3 108 h1 h2 ?_
    repeat (first | refine gG ?_ | refine zAl (fun _ => ?_))
    refine zG ?_
    exact ⟨rfl, rfl⟩
  · rw [h] at h1; cases h1
set_option maxRecDepth 100000 in
set_option maxHeartbeats 4000000 in
theorem get_some_ag (b bp bn : Nat) (D : List Pc) (hD : POk D) (n : Int) (p : Pc) (h : getS n D = some p) : AG Try.prog 27 [.ptr 0 b 0, .c (.lit (.int .i64 n))] (shP b bp bn D) (fun r hs => r = .tup [.c (bytRow p.t.data.toList), .c (.lit (.int .i64 p.h)), .c (.lit (.int .i64 0))] ∧ hs = shP b bp bn D) := by
  rcases look_n (D := D) n with ⟨h0, _, _⟩ | ⟨q, h0, h1, h2⟩
  · rw [h] at h0; cases h0
  · rw [h] at h0
    cases h0
    obtain ⟨j, _, hj, _⟩ := getS_some h
    have ht := hD.ts p (List.mem_of_getElem? hj)
    clear h hj
    obtain ⟨pn, pt, ph⟩ := p
    dsimp only at ht ⊢
    refine ag_enter (3) tok Try.func27 Try.ntmps27 Try.results27 rfl (by kernel_rfl) rfl fun F => ?_
    repeat (first | refine gG ?_ | refine zAl (fun _ => ?_))
    refine zLkia 3 108 h1 h2 ?_
    repeat (first | refine gG ?_ | refine zAl (fun _ => ?_))
    refine ac_draw [1, 1, 1, 1, 1, 1, 1, 1] [0, 1, 2, 3, 4, 5, 6, 7] (by kernel_rfl) (by kernel_rfl) ?_
    refine gW ?_
    apply w_q; (focus exact rfl); (focus exact rfl); focus (intro _; (refine zByt (show pt.size ≤ maxLen by unfold maxLen; omega) ?_); exact det_refl)
    refine gW ?_
    refine w_nil ?_
    repeat (first | refine gG ?_ | refine zAl (fun _ => ?_))
    refine zG ?_
    exact ⟨rfl, rfl⟩
end Go.Proofs.Ytdogdjcjmhogmaa
namespace Go.Proofs.Ytdogdjcjmhogmaa
open Go.RowKit
def intTs (i : Int) : List T := [.lit (.int .i64 i)]
def intRow (l : List Int) : T := .row l.length 1 (l.flatMap intTs)
theorem int_at {l : List Int} {k : Nat} {i : Int} (h : l[k]? = some i) : (l.flatMap intTs)[k * 1]? = some (.lit (.int .i64 i)) := flat_get intTs 1 (fun _ => rfl) h (j := 0) (by omega)
end Go.Proofs.Ytdogdjcjmhogmaa
