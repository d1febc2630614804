/-
  Texts of this proof, part 7: Wta Tab Wtb Wtc.
-/
import Derived.Test.YtaoldigfefmamaaQTalkSays6
import Derived.Laws.IdiomRangeMap
import Derived.Lib.AppendStr
import Derived.Test.YtaoldigfefmamaaProg
namespace Go.Proofs.Ytaoldigfefmamaa
open Go.RowKit
theorem nth {α : Type} {l : List α} {k : Nat} (h : k < l.length) : ∃ a, l[k]? = some a := ⟨_, List.getElem?_eq_getElem h⟩
structure Ln where
  a : Int
  b : Int
instance : Inhabited Ln := ⟨⟨0, 0⟩⟩
def Ln.ts (l : Ln) : List T := [.lit (.int .i64 l.a), .lit (.int .i64 l.b)]
theorem Ln.ts_len (l : Ln) : l.ts.length = 2 := rfl
structure Dd where
  line : Int
  send : Bool
  msg : Int
instance : Inhabited Dd := ⟨⟨0, false, 0⟩⟩
def Dd.ts (d : Dd) : List T := [.lit (.int .i64 d.line), .lit (.bool d.send), .lit (.int .i64 d.msg)]
theorem Dd.ts_len (d : Dd) : d.ts.length = 3 := rfl
def sgn (s : Bool) : Int := bif s then 1 else 0
def Dd.ts3 (d : Dd) : List T := [.lit (.int .i64 d.line), .lit (.int .i64 (sgn d.send)), .lit (.int .i64 d.msg)]
theorem Dd.ts3_len (d : Dd) : d.ts3.length = 3 := rfl
structure Nt where
  lines : List Ln
  who : List (List Dd)
def lnRow (l : List Ln) : T := .row l.length 2 (l.flatMap Ln.ts)
def ddRow (l : List Dd) : T := .row l.length 3 (l.flatMap Dd.ts)
def ddRow3 (l : List Dd) : T := .row l.length 3 (l.flatMap Dd.ts3)
def whoTs (l : List Dd) : List T := [ddRow l]
def whoTs3 (l : List Dd) : List T := [ddRow3 l]
def whoRow (l : List (List Dd)) : T := .row l.length 1 (l.flatMap whoTs)
def whoRow3 (l : List (List Dd)) : T := .row l.length 1 (l.flatMap whoTs3)
def Nt.t (n : Nt) : T := .agg [lnRow n.lines, whoRow n.who]
def Nt.t3 (n : Nt) : T := .agg [lnRow n.lines, whoRow3 n.who]
def nTs (i : Int) : List T := [.lit (.int .i64 i)]
theorem nTs_len (i : Int) : (nTs i).length = 1 := rfl
def nRow (l : List Int) : T := .row l.length 1 (l.flatMap nTs)
theorem n_at {l : List Int} {k : Nat} {i : Int} (h : l[k]? = some i) : (l.flatMap nTs)[k * 1]? = some (.lit (.int .i64 i)) := by
  have := flat_get nTs 1 (fun _ => rfl) h (j := 0) (by omega)
  simpa [nTs] using this
theorem who_at {l : List (List Dd)} {k : Nat} {r : List Dd} (h : l[k]? = some r) : (l.flatMap whoTs)[k * 1]? = some (ddRow r) := by
  have := flat_get whoTs 1 (fun _ => rfl) h (j := 0) (by omega)
  simpa [whoTs] using this
theorem who_at3 {l : List (List Dd)} {k : Nat} {r : List Dd} (h : l[k]? = some r) : (l.flatMap whoTs3)[k * 1]? = some (ddRow3 r) := by
  have := flat_get whoTs3 1 (fun _ => rfl) h (j := 0) (by omega)
  simpa [whoTs3] using this
def firstE {α : Type} (f : α → Int) : List α → Int
  | [] => 0
  | a :: l => if f a = 0 then firstE f l else f a
def ETo {α : Type} (f : α → Int) (l : List α) (k : Nat) : Prop := firstE f l = firstE f (l.drop k)
theorem eTo_zero {α : Type} (f : α → Int) (l : List α) : ETo f l 0 := rfl
theorem eTo_step {α : Type} {f : α → Int} {l : List α} {k : Nat} {a : α} (h : ETo f l k) (ha : l[k]? = some a) (hb : f a = 0) : ETo f l (k + 1) := by
  obtain ⟨h1, rfl⟩ := List.getElem?_eq_some_iff.1 ha
  unfold ETo at *
  rw [h, List.drop_eq_getElem_cons h1, firstE, if_pos hb]
theorem eTo_bad {α : Type} {f : α → Int} {l : List α} {k : Nat} {a : α} (h : ETo f l k) (ha : l[k]? = some a) (hb : f a ≠ 0) : firstE f l = f a := by
  obtain ⟨h1, rfl⟩ := List.getElem?_eq_some_iff.1 ha
  unfold ETo at h
  rw [h, List.drop_eq_getElem_cons h1, firstE, if_neg hb]
theorem eTo_end {α : Type} {f : α → Int} {l : List α} (h : ETo f l l.length) : firstE f l = 0 := by
  unfold ETo at h
  rw [h, List.drop_length]; rfl
theorem firstE_zero {α : Type} {f : α → Int} : ∀ {l : List α}, firstE f l = 0 → ∀ a ∈ l, f a = 0
  | b :: l, h, a, ha => by
    rw [firstE] at h
    by_cases hb : f b = 0
    · rw [if_pos hb] at h
      rcases List.mem_cons.1 ha with rfl | ha
      · exact hb
      · exact firstE_zero h a ha
    · rw [if_neg hb] at h
      exact absurd h hb
def lnE (m : Nat) (l : Ln) : Int := if l.a < 0 ∨ l.b < 0 ∨ (m : Int) ≤ l.a ∨ (m : Int) ≤ l.b ∨ l.a = l.b then 1 else 0
def lnAt (ls : List Ln) (i : Int) : Ln := (ls[i.toNat]?).getD default
def ddE (ls : List Ln) (w : Nat) (d : Dd) : Int := if d.line < 0 ∨ (ls.length : Int) ≤ d.line ∨ d.msg < 0 ∨ 20 < d.msg then 1 else if ¬ (lnAt ls d.line).a = w ∧ ¬ (lnAt ls d.line).b = w then 7 else 0
def whoE (ls : List Ln) (p : List Dd × Nat) : Int := if 40 < p.1.length then 2 else firstE (ddE ls p.2) p.1
def netE (n : Nt) : Int := if 8 < n.who.length ∨ 12 < n.lines.length then 2 else if firstE (lnE n.who.length) n.lines = 0 then firstE (whoE n.lines) n.who.zipIdx else firstE (lnE n.who.length) n.lines
structure NOk (n : Nt) : Prop where
  who8 : n.who.length ≤ 8
  ln12 : n.lines.length ≤ 12
  ln : ∀ {i : Nat} {l : Ln}, n.lines[i]? = some l → 0 ≤ l.a ∧ 0 ≤ l.b ∧ l.a < n.who.length ∧ l.b < n.who.length ∧ l.a ≠ l.b
  dd40 : ∀ {w : Nat} {r : List Dd}, n.who[w]? = some r → r.length ≤ 40
  dd : ∀ {w : Nat} {r : List Dd} {d : Dd}, n.who[w]? = some r → d ∈ r → 0 ≤ d.line ∧ d.line < n.lines.length ∧ 0 ≤ d.msg ∧ d.msg ≤ 20 ∧ ((lnAt n.lines d.line).a = w ∨ (lnAt n.lines d.line).b = w)
theorem netE_ok {n : Nt} (h : netE n = 0) : NOk n := by
  unfold netE at h
  by_cases h1 : 8 < n.who.length ∨ 12 < n.lines.length
  · rw [if_pos h1] at h; cases h
  rw [if_neg h1] at h
  by_cases h2 : firstE (lnE n.who.length) n.lines = 0
  · rw [if_pos h2] at h
    have hw : ∀ {w : Nat} {r : List Dd}, n.who[w]? = some r → whoE n.lines (r, w) = 0 := fun {w r} hr => firstE_zero h (r, w) (by
      refine List.mem_of_getElem? (i := w) ?_
      rw [List.getElem?_zipIdx, hr]
      simp)
    refine ⟨by omega, by omega, fun {i l} hl => ?_, fun {w r} hr => ?_, fun {w r d} hr hd => ?_⟩
    · have := firstE_zero h2 l (List.mem_of_getElem? hl)
      unfold lnE at this
      split at this
      · cases this
      · rename_i h3; omega
    · have := hw hr
      unfold whoE at this
      split at this
      · cases this
      · rename_i h3; dsimp only at h3; omega
    · have := hw hr
      unfold whoE at this
      split at this
      · cases this
      · have := firstE_zero this d hd
        unfold ddE at this
        split at this
        · cases this
        · split at this
          · cases this
          · rename_i h3 h4
            refine ⟨by omega, by omega, by omega, by omega, ?_⟩
            by_cases h5 : (lnAt n.lines d.line).a = w
            · exact .inl h5
            · exact .inr (Classical.byContradiction fun h6 => h4 ⟨h5, h6⟩)
  · rw [if_neg h2] at h
    exact absurd h h2
theorem lnAt_eq {ls : List Ln} {i : Nat} {l : Ln} (h : ls[i]? = some l) : lnAt ls (i : Int) = l := by
  unfold lnAt
  rw [Int.toNat_natCast, h]; rfl
def eqW {α β : Type} (p : α → β → Bool) : List α → List β → Bool
  | [], [] => true
  | a :: l, b :: r => p a b && eqW p l r
  | _, _ => false
theorem eqW_len {α β : Type} {p : α → β → Bool} : ∀ {l : List α} {r : List β}, l.length ≠ r.length → eqW p l r = false
  | [], [], h => absurd rfl h
  | [], _ :: _, _ => rfl
  | _ :: _, [], _ => rfl
  | a :: l, b :: r, h => by rw [eqW, eqW_len (l := l) (r := r) (by simpa using h), Bool.and_false]
theorem eqW_step {α β : Type} {p : α → β → Bool} {l : List α} {r : List β} {k : Nat} {a : α} {b : β} (ha : l[k]? = some a) (hb : r[k]? = some b) : eqW p (l.drop k) (r.drop k) = (p a b && eqW p (l.drop (k + 1)) (r.drop (k + 1))) := by
  obtain ⟨h1, rfl⟩ := List.getElem?_eq_some_iff.1 ha
  obtain ⟨h2, rfl⟩ := List.getElem?_eq_some_iff.1 hb
  rw [List.drop_eq_getElem_cons h1, List.drop_eq_getElem_cons h2, eqW]
def onL (who : List (List Dd)) (w : Int) (i : Nat) : List Dd := ((who[w.toNat]?).getD []).filter fun d => decide (d.line = (i : Int))
def meetB (x y : Dd) : Bool := decide (x.msg = y.msg) && !decide (x.send = y.send)
def dualB (n : Nt) (i : Nat) : Bool := !eqW meetB (onL n.who (lnAt n.lines i).a i) (onL n.who (lnAt n.lines i).b i)
def dualR (n : Nt) : Int := idxI (dualB n) (List.range n.lines.length)
/-- what one place adds to what is seen -/
def grow (but : Int) (w : Int × List Int) (s : List (Int × List Int) × List Int) (p : Ln × Nat) : List (Int × List Int) × List Int :=
  if (p.2 : Int) = but ∨ (p.1.a ≠ w.1 ∧ p.1.b ≠ w.1) then s else if p.1.a + p.1.b - w.1 ∈ s.2 then s else (s.1 ++ [(p.1.a + p.1.b - w.1, w.2 ++ [(p.2 : Int)])], s.2 ++ [p.1.a + p.1.b - w.1])
def growTo (ls : List Ln) (but : Int) (w : Int × List Int) (s : List (Int × List Int) × List Int) (k : Nat) : List (Int × List Int) × List Int := (ls.zipIdx.take k).foldl (grow but w) s
theorem growTo_zero (ls : List Ln) (but : Int) (w : Int × List Int) (s : List (Int × List Int) × List Int) : growTo ls but w s 0 = s := rfl
theorem growTo_snoc {ls : List Ln} {but : Int} {w : Int × List Int} {s : List (Int × List Int) × List Int} {k : Nat} {l : Ln} (h : ls[k]? = some l) : growTo ls but w s (k + 1) = grow but w (growTo ls but w s k) (l, k) := by
  have hz : ls.zipIdx[k]? = some (l, k) := by rw [List.getElem?_zipIdx, h]; simp
  obtain ⟨h1, h2⟩ := List.getElem?_eq_some_iff.1 hz
  unfold growTo
  rw [List.take_succ_eq_append_getElem h1, List.foldl_append, h2]; rfl
def bfs (ls : List Ln) (but to : Int) : Nat → List (Int × List Int) × List Int → Option (List Int)
  | 0, _ => none
  | _ + 1, ([], _) => none
  | k + 1, (w :: q, sn) => if w.1 = to then some w.2 else bfs ls but to k (growTo ls but w (q, sn) ls.length)
def wayOf (n : Nt) (fr to but : Int) : Option (List Int) := bfs n.lines but to (n.who.length + 1) ([(fr, [])], [fr])
/-- what holds of what is seen: places, each once -/
structure Seen (m : Nat) (fr : Int) (s : List (Int × List Int) × List Int) : Prop where
  nodup : s.2.Nodup
  rng : ∀ x ∈ s.2, 0 ≤ x ∧ x < m
  len : s.1.length ≤ s.2.length
  sub : ∀ p ∈ s.1, p.1 ∈ s.2
  fr : fr ∈ s.2
theorem Seen.le {m : Nat} {fr : Int} {s : List (Int × List Int) × List Int} (h : Seen m fr s) : s.2.length ≤ m := by
  have h1 : (s.2.map Int.toNat).Nodup := List.pairwise_map.2 (h.nodup.imp_of_mem fun {x y} hx hy hne e => hne (by
    have := h.rng x hx
    have := h.rng y hy
    omega))
  have h2 := walk_len (n := m) h1 fun p hp => by
    obtain ⟨y, hy, rfl⟩ := List.mem_map.1 hp
    have := h.rng y hy
    omega
  simpa using h2
end Go.Proofs.Ytaoldigfefmamaa
namespace Go.Proofs.Ytaoldigfefmamaa
set_option maxRecDepth 100000 in
def tab : Tab :=
  (.node 60 ⟨1, 8, [.nilFunc], .other⟩ (.node 29 ⟨1, 8, [.nilFunc], .other⟩ (.node 14 ⟨2, 24, [.string ⟨#[]⟩, .int .u64 0], (.struct [(0, 1), (1, 1)])⟩ (.node 7 ⟨4, 24, [.int .i64 0, .int .i64 0, .bool false, .int .u8 0], (.struct [(0, 1), (1, 1), (2, 1), (3, 1)])⟩ (.node 4 ⟨1, 1, [.bool false], .bool⟩ (.node 2 ⟨1, 8, [.int .i64 0], (.int .i64)⟩ (.node 1 ⟨1, 8, [.nilFunc], .other⟩ .nil .nil) (.node 3 ⟨1, 8, [.int .i64 0], (.int .i64)⟩ .nil .nil)) (.node 6 ⟨1, 1, [.int .u8 0], (.int .u8)⟩ (.node 5 ⟨1, 1, [.int .u8 0], (.int .u8)⟩ .nil .nil) .nil)) (.node 11 ⟨1, 16, [.string ⟨#[]⟩], .string⟩ (.node 9 ⟨1, 16, [.string ⟨#[]⟩], .string⟩ (.node 8 ⟨4, 24, [.int .i64 0, .int .i64 0, .bool false, .int .u8 0], (.struct [(0, 1), (1, 1), (2, 1), (3, 1)])⟩ .nil .nil) (.node 10 ⟨1, 16, [.string ⟨#[]⟩], .string⟩ .nil .nil)) (.node 13 ⟨2, 24, [.string ⟨#[]⟩, .int .u64 0], (.struct [(0, 1), (1, 1)])⟩ (.node 12 ⟨1, 8, [.int .u64 0], (.int .u64)⟩ .nil .nil) .nil))) (.node 21 ⟨1, 4, [.int .i32 0], (.int .i32)⟩ (.node 18 ⟨1, 8, [.pointer none], (.struct [(0, 1)])⟩ (.node 16 ⟨1, 8, [.pointer none], .other⟩ (.node 15 ⟨1, 8, [.pointer none], .other⟩ .nil .nil) (.node 17 ⟨1, 8, [.pointer none], .other⟩ .nil .nil)) (.node 20 ⟨1, 16, [.nilIface], .other⟩ (.node 19 ⟨1, 8, [.pointer none], (.struct [(0, 1)])⟩ .nil .nil) .nil)) (.node 25 ⟨2, 48, [.slice none 0 0, .slice none 0 0], (.struct [(0, 1), (1, 1)])⟩ (.node 23 ⟨1, 24, [.slice none 0 0], (.slice 42)⟩ (.node 22 ⟨1, 24, [.slice none 0 0], (.slice 40)⟩ .nil .nil) (.node 24 ⟨2, 48, [.slice none 0 0, .slice none 0 0], (.struct [(0, 1), (1, 1)])⟩ .nil .nil)) (.node 27 ⟨1, 8, [.int .i64 0], (.int .i64)⟩ (.node 26 ⟨1, 24, [.slice none 0 0], (.slice 3)⟩ .nil .nil) .nil)))) (.node 45 ⟨3, 24, [.int .i64 0, .bool false, .int .i64 0], (.struct [(0, 1), (1, 1), (2, 1)])⟩ (.node 38 ⟨2, 48, [.slice none 0 0, .slice none 0 0], (.struct [(0, 1), (1, 1)])⟩ (.node 35 ⟨1, 24, [.slice none 0 0], (.slice 41)⟩ (.node 33 ⟨1, 8, [.nilFunc], .other⟩ (.node 31 ⟨1, 8, [.nilFunc], .other⟩ .nil .nil) (.node 34 ⟨1, 8, [.nilFunc], .other⟩ .nil .nil)) (.node 37 ⟨2, 48, [.slice none 0 0, .slice none 0 0], (.struct [(0, 1), (1, 1)])⟩ (.node 36 ⟨1, 24, [.slice none 0 0], (.slice 43)⟩ .nil .nil) .nil)) (.node 42 ⟨1, 24, [.slice none 0 0], (.slice 45)⟩ (.node 40 ⟨2, 16, [.int .i64 0, .int .i64 0], (.struct [(0, 1), (1, 1)])⟩ (.node 39 ⟨2, 16, [.int .i64 0, .int .i64 0], (.struct [(0, 1), (1, 1)])⟩ .nil .nil) (.node 41 ⟨2, 16, [.int .i64 0, .int .i64 0], (.array 2 3)⟩ .nil .nil)) (.node 44 ⟨3, 24, [.int .i64 0, .bool false, .int .i64 0], (.struct [(0, 1), (1, 1), (2, 1)])⟩ (.node 43 ⟨1, 24, [.slice none 0 0], (.slice 46)⟩ .nil .nil) .nil))) (.node 53 ⟨1, 8, [.nilFunc], .other⟩ (.node 49 ⟨1, 8, [.nilFunc], .other⟩ (.node 47 ⟨1, 8, [.nilFunc], .other⟩ (.node 46 ⟨3, 24, [.int .i64 0, .int .i64 0, .int .i64 0], (.array 3 3)⟩ .nil .nil) (.node 48 ⟨1, 8, [.nilFunc], .other⟩ .nil .nil)) (.node 51 ⟨1, 8, [.nilFunc], .other⟩ (.node 50 ⟨1, 8, [.nilFunc], .other⟩ .nil .nil) .nil)) (.node 56 ⟨1, 24, [.slice none 0 0], (.slice 66)⟩ (.node 55 ⟨1, 8, [.nilFunc], .other⟩ (.node 54 ⟨1, 8, [.nilFunc], .other⟩ .nil .nil) .nil) (.node 59 ⟨1, 8, [.nilFunc], .other⟩ (.node 57 ⟨1, 8, [.pointer none], .other⟩ .nil .nil) .nil))))) (.node 90 ⟨5, 88, [.slice none 0 0, .bool false, .int .i64 0, .slice none 0 0, .slice none 0 0], (.struct [(0, 1), (1, 1), (2, 1), (3, 1), (4, 1)])⟩ (.node 76 ⟨1, 8, [.nilFunc], .other⟩ (.node 68 ⟨1, 8, [.nilFunc], .other⟩ (.node 64 ⟨1, 24, [.slice none 0 0], (.slice 5)⟩ (.node 62 ⟨1, 8, [.map none], .other⟩ (.node 61 ⟨1, 8, [.nilFunc], .other⟩ .nil .nil) (.node 63 ⟨1, 8, [.map none], .other⟩ .nil .nil)) (.node 66 ⟨4, 64, [.int .i64 0, .int .i64 0, .slice none 0 0, .slice none 0 0], (.struct [(0, 1), (1, 1), (2, 1), (3, 1)])⟩ (.node 65 ⟨4, 64, [.int .i64 0, .int .i64 0, .slice none 0 0, .slice none 0 0], (.struct [(0, 1), (1, 1), (2, 1), (3, 1)])⟩ .nil .nil) .nil)) (.node 73 ⟨1, 8, [.nilFunc], .other⟩ (.node 70 ⟨1, 24, [.slice none 0 0], (.slice 26)⟩ (.node 69 ⟨1, 8, [.nilFunc], .other⟩ .nil .nil) (.node 72 ⟨1, 8, [.nilFunc], .other⟩ .nil .nil)) (.node 75 ⟨1, 8, [.nilFunc], .other⟩ (.node 74 ⟨1, 8, [.nilFunc], .other⟩ .nil .nil) .nil))) (.node 84 ⟨1, 8, [.nilFunc], .other⟩ (.node 81 ⟨1, 8, [.nilFunc], .other⟩ (.node 79 ⟨1, 8, [.nilFunc], .other⟩ (.node 78 ⟨1, 8, [.nilFunc], .other⟩ .nil .nil) (.node 80 ⟨1, 8, [.int .u64 0], (.int .u64)⟩ .nil .nil)) (.node 83 ⟨1, 8, [.nilFunc], .other⟩ (.node 82 ⟨1, 8, [.nilFunc], .other⟩ .nil .nil) .nil)) (.node 87 ⟨1, 8, [.nilFunc], .other⟩ (.node 86 ⟨1, 8, [.nilFunc], .other⟩ (.node 85 ⟨1, 8, [.nilFunc], .other⟩ .nil .nil) .nil) (.node 89 ⟨1, 24, [.slice none 0 0], (.slice 4)⟩ (.node 88 ⟨1, 8, [.nilFunc], .other⟩ .nil .nil) .nil)))) (.node 105 ⟨0, 0, [], (.array 0 16)⟩ (.node 98 ⟨2, 32, [.int .i64 0, .slice none 0 0], (.struct [(0, 1), (1, 1)])⟩ (.node 94 ⟨1, 8, [.map none], .other⟩ (.node 92 ⟨1, 8, [.nilFunc], .other⟩ (.node 91 ⟨5, 88, [.slice none 0 0, .bool false, .int .i64 0, .slice none 0 0, .slice none 0 0], (.struct [(0, 1), (1, 1), (2, 1), (3, 1), (4, 1)])⟩ .nil .nil) (.node 93 ⟨1, 8, [.nilFunc], .other⟩ .nil .nil)) (.node 97 ⟨2, 32, [.int .i64 0, .slice none 0 0], (.struct [(0, 1), (1, 1)])⟩ (.node 96 ⟨1, 8, [.nilFunc], .other⟩ .nil .nil) .nil)) (.node 102 ⟨1, 8, [.nilFunc], .other⟩ (.node 100 ⟨1, 8, [.nilFunc], .other⟩ (.node 99 ⟨1, 24, [.slice none 0 0], (.slice 98)⟩ .nil .nil) (.node 101 ⟨1, 8, [.nilFunc], .other⟩ .nil .nil)) (.node 104 ⟨4, 40, [.pointer none, .pointer none, .pointer none, .string ⟨#[]⟩], (.struct [(0, 1), (1, 1), (2, 1), (3, 1)])⟩ (.node 103 ⟨4, 40, [.pointer none, .pointer none, .pointer none, .string ⟨#[]⟩], (.struct [(0, 1), (1, 1), (2, 1), (3, 1)])⟩ .nil .nil) .nil))) (.node 112 ⟨1, 8, [.nilFunc], .other⟩ (.node 109 ⟨1, 4, [.int .u32 0], (.int .u32)⟩ (.node 107 ⟨0, 0, [], (.struct [(0, 0)])⟩ (.node 106 ⟨0, 0, [], (.struct [(0, 0)])⟩ .nil .nil) (.node 108 ⟨1, 8, [.nilFunc], .other⟩ .nil .nil)) (.node 111 ⟨1, 1, [.int .u8 0], (.int .u8)⟩ (.node 110 ⟨1, 1, [.int .u8 0], (.int .u8)⟩ .nil .nil) .nil)) (.node 115 ⟨1, 4, [.int .i32 0], (.int .i32)⟩ (.node 114 ⟨1, 4, [.int .i32 0], (.int .i32)⟩ (.node 113 ⟨1, 8, [.pointer none], .other⟩ .nil .nil) .nil) (.node 117 ⟨11, 48, [.int .u64 0, .int .u64 0, .int .u32 0, .int .u8 0, .int .u8 0, .int .u8 0, .int .u8 0, .nilFunc, .pointer none, .int .i32 0, .int .i32 0], (.struct [(0, 1), (1, 1), (2, 1), (3, 1), (4, 1), (5, 1), (6, 1), (7, 1), (8, 1), (9, 1), (10, 1)])⟩ (.node 116 ⟨11, 48, [.int .u64 0, .int .u64 0, .int .u32 0, .int .u8 0, .int .u8 0, .int .u8 0, .int .u8 0, .nilFunc, .pointer none, .int .i32 0, .int .i32 0], (.struct [(0, 1), (1, 1), (2, 1), (3, 1), (4, 1), (5, 1), (6, 1), (7, 1), (8, 1), (9, 1), (10, 1)])⟩ .nil .nil) .nil))))))
set_option maxRecDepth 100000 in
theorem tabOkB : tab.okB Try.prog = true := by kernel_rfl
theorem tok : TabOk Try.prog tab := tab_ok tabOkB
end Go.Proofs.Ytaoldigfefmamaa
namespace Go.Proofs.Ytaoldigfefmamaa
open Go.RowKit
section
variable {P : Program} {F : Frm} {L : Tab} {d : Option Tmp} {ty : TypeId} {pos : String} {aft : Array Edge} {g : Option (Nat × Bool)} {ρ : Operand → AV} {hp : List Blk} {K : AV → List Blk → Prop}
theorem lo_slice_pin (hL : TabOk P L) {t el : TypeId} {ti te : TI} {x : Operand} {cs : List T} {off n : Nat} (hx : ρ x = .c (.pin cs off)) (hbn : off + n * te.size ≤ cs.length) (hn0 : 0 < n) (hnM : n ≤ maxLen) (h0 : 0 < te.size) (ht : L.look t = some ti) (hd : ti.d = .array n el) (hte : L.look el = some te) (h : K (.c (.row n te.size ((cs.drop off).take (n * te.size)))) hp) : LO P F ⟨d, .slice t x none none none, ty, pos, aft, g⟩ ρ hp K := by
  refine LO.same (fun M e w he _ => ?_) h
  have h1 := he x (by simp [Op.operands])
  rw [hx] at h1
  simp only [RA, RT] at h1
  obtain ⟨ad, xs, hu, hA, hr⟩ := h1
  have hlen := hr.len
  refine ⟨.slice (some (ad.add off)) n n, ?_, ?_⟩
  · simp [execOp, Instr.sliceAt, Instr.sliceBounds, hu, run_underlying (hL.array ht hd), hL.sizeOf hte, Instr.sureAddr, (by omega : n ≠ 0), add_zero']
  · simp only [RA, RT]
    refine ⟨some (ad.add off), n, (xs.drop off).take (n * te.size), rfl, Nat.le_refl _, hnM, h0, by rw [List.length_take, List.length_drop]; omega, fun _ => ⟨_, rfl, fun j x hj => ?_⟩, (hr.drop off).take _⟩
    rw [add_add']
    refine hA _ _ ?_
    rw [List.getElem?_take] at hj
    split at hj
    · rw [List.getElem?_drop] at hj; exact hj
    · cases hj
theorem zSlp {t el : TypeId} {ti te : TI} {x : Operand} {cs : List T} (n off : Nat) (us : List T) (hus : (cs.drop off).take n = us) (hbn : off + n ≤ cs.length) (hn : 0 < n ∧ n ≤ 1000) (h : K (.c (.row n 1 us)) hp) (hL : TabOk P L := by exact tok) (hx : ρ x = .c (.pin cs off) := by exact rfl) (ht : L.look t = some ti := by exact rfl) (hd : ti.d = .array n el := by exact rfl) (hte : L.look el = some te := by exact rfl) (hsz : te.size = 1 := by exact rfl) : LO P F ⟨d, .slice t x none none none, ty, pos, aft, g⟩ ρ hp K :=
  lo_slice_pin hL hx (by rw [hsz, Nat.mul_one]; exact hbn) hn.1 (by have := hn.2; unfold maxLen; omega) (by rw [hsz]; exact Nat.one_pos) ht hd hte (by rw [hsz, Nat.mul_one, hus]; exact h)
end
theorem zip_idx {α : Type} {l : List α} {k : Nat} {a : α} (h : l[k]? = some a) : l.zipIdx[k]? = some (a, k) := by rw [List.getElem?_zipIdx, h]; simp
set_option maxRecDepth 100000 in
set_option maxHeartbeats 1000000 in
theorem idxInt_af (l : List Int) (s : Int) : AF Try.prog 35 [nRow l, .lit (.int .i64 s)] (· = .lit (.int .i64 (idxI (fun a => decide (s = a)) l))) := by
  refine af_enter tok Try.func35 Try.ntmps35 Try.results35 rfl (by kernel_rfl) rfl rfl fun F hX => ?_
  repeat (first | refine gG ?_ | refine zN1 (fun hlen => ?_) | refine zN2 (fun hlen => ?_))
  refine x_loop [4, 5, 8, 9, 10, 11, 12, 13, 14, 15, 16, 17, 18] (fun k : Nat => [(8, .c (.lit (.int .i64 (k : Nat))))]) (fun _ => []) (fun k => k ≤ l.length ∧ idxAt (fun a => decide (s = a)) l k) (fun k => l.length - k) 0 ⟨Nat.zero_le _, idxAt_zero _ l⟩ ⟨rfl, trivial⟩ rfl fun k hk => ?_
  repeat (first | refine gG ?_ | refine zN1 (fun hlen => ?_) | refine zN2 (fun hlen => ?_))
  refine x_cond rfl (fun h => ?_) (fun h => ?_)
  · have hk' : k < l.length := by simpa using h
    obtain ⟨a, ha⟩ := nth hk'
    have hat := n_at ha
    have hno := fun hp => idxAt_no hk.2 ha hp
    have hyes := fun hp => idxAt_yes hk.2 ha hp
    clear h ha hk
    cases d1 : decide (s = a)
    · replace hno := hno d1
      repeat (first | refine gG ?_ | refine zN1 (fun hlen => ?_) | refine zN2 (fun hlen => ?_))
      refine zIx k hk' ?_
      repeat (first | refine gG ?_ | refine zN1 (fun hlen => ?_) | refine zN2 (fun hlen => ?_))
      refine zEl1 hat ?_
      repeat (first | refine gG ?_ | refine zN1 (fun hlen => ?_) | refine zN2 (fun hlen => ?_))
      exact ⟨k + 1, ⟨hk', hno⟩, by omega, x_wkd 0 ⟨rfl, trivial⟩ rfl (by repeat (first | exact ag_refl | refine ag_upd rfl ?_ | refine ag_at rfl rfl ?_))⟩
    · replace hyes := hyes d1
      repeat (first | refine gG ?_ | refine zN1 (fun hlen => ?_) | refine zN2 (fun hlen => ?_))
      refine zIx k hk' ?_
      repeat (first | refine gG ?_ | refine zN1 (fun hlen => ?_) | refine zN2 (fun hlen => ?_))
      refine zEl1 hat ?_
      repeat (first | refine gG ?_ | refine zN1 (fun hlen => ?_) | refine zN2 (fun hlen => ?_))
      first | refine zR ?_ | refine zQ ?_
      rw [hyes]; rfl
  · have hk' : k = l.length := by have : ¬ k < l.length := by simpa using h
                                  omega
    subst hk'
    repeat (first | refine gG ?_ | refine zN1 (fun hlen => ?_) | refine zN2 (fun hlen => ?_))
    first | refine zR ?_ | refine zQ ?_
    rw [idxAt_end hk.2]; rfl
theorem idx_any {α : Type} (p : α → Bool) (l : List α) : decide ((0 : Int) ≤ idxI p l) = l.any p := by
  rw [Bool.eq_iff_iff, decide_eq_true_iff, List.any_eq_true]
  constructor
  · intro h
    unfold idxI at h
    cases hf : l.findIdx? p with
    | none => rw [hf] at h; simp at h
    | some i =>
      obtain ⟨h1, h2, _⟩ := List.findIdx?_eq_some_iff_getElem.1 hf
      exact ⟨_, List.getElem_mem h1, h2⟩
  · rintro ⟨a, ha, hp⟩
    unfold idxI
    cases hf : l.findIdx? p with
    | none =>
      have := List.findIdx?_eq_none_iff.1 hf a ha
      rw [hp] at this; cases this
    | some i => simp
set_option maxRecDepth 100000 in
set_option maxHeartbeats 1000000 in
theorem hasInt_af (l : List Int) (s : Int) : AF Try.prog 18 [nRow l, .lit (.int .i64 s)] (· = .lit (.bool (l.any fun a => decide (s = a)))) := by
  have hc := idxInt_af l s
  refine af_enter tok Try.func18 Try.ntmps18 Try.results18 rfl (by kernel_rfl) rfl rfl fun F hX => ?_
  repeat (first | refine gG ?_)
  refine zCall (hc) ?_
  rintro _ rfl
  repeat (first | refine gG ?_)
  first | refine zR ?_ | refine zQ ?_
  rw [← idx_any]; rfl
set_option maxRecDepth 100000 in
set_option maxHeartbeats 8000000 in
theorem check_af (n : Nt) : AF Try.prog 10 [n.t] (· = .lit (.int .i64 (netE n))) := by
  obtain ⟨ls, ws⟩ := n
  have hN : netE ⟨ls, ws⟩ = if 8 < ws.length ∨ 12 < ls.length then 2 else if firstE (lnE ws.length) ls = 0 then firstE (whoE ls) ws.zipIdx else firstE (lnE ws.length) ls := rfl
  generalize netE ⟨ls, ws⟩ = r at *
  have hL1 : ∀ l : Ln, lnE ws.length l = if l.a < 0 ∨ l.b < 0 ∨ (ws.length : Int) ≤ l.a ∨ (ws.length : Int) ≤ l.b ∨ l.a = l.b then 1 else 0 := fun _ => rfl
  have hW1 : ∀ p : List Dd × Nat, whoE ls p = if 40 < p.1.length then 2 else firstE (ddE ls p.2) p.1 := fun _ => rfl
  have hD1 : ∀ (w : Nat) (d : Dd), ddE ls w d = if d.line < 0 ∨ (ls.length : Int) ≤ d.line ∨ d.msg < 0 ∨ 20 < d.msg then 1 else if ¬ (lnAt ls d.line).a = w ∧ ¬ (lnAt ls d.line).b = w then 7 else 0 := fun _ _ => rfl
  generalize lnE ws.length = eL at *
  generalize whoE ls = eW at *
  generalize ddE ls = eD at *
  refine af_enter tok Try.func10 Try.ntmps10 Try.results10 rfl (by kernel_rfl) rfl rfl fun F hX => ?_
  by_cases pw1 : (8 : Int) < ((ws.length : Nat) : Int)
  · have w1 : decide ((8 : Int) < ((ws.length : Nat) : Int)) = true := decide_eq_true pw1
    repeat (first | refine gG ?_ | refine zN1 (fun hlen => ?_) | refine zN2 (fun hlen => ?_) | refine zAl (fun _ => ?_) | refine zBf ?_)
    first | refine zR ?_ | refine zQ ?_
    rw [hN, if_pos (by omega)]; rfl
  have w1 : decide ((8 : Int) < ((ws.length : Nat) : Int)) = false := decide_eq_false pw1
  by_cases pw2 : (12 : Int) < ((ls.length : Nat) : Int)
  · have w2 : decide ((12 : Int) < ((ls.length : Nat) : Int)) = true := decide_eq_true pw2
    repeat (first | refine gG ?_ | refine zN1 (fun hlen => ?_) | refine zN2 (fun hlen => ?_) | refine zAl (fun _ => ?_) | refine zBf ?_)
    first | refine zR ?_ | refine zQ ?_
    rw [hN, if_pos (by omega)]; rfl
  have w2 : decide ((12 : Int) < ((ls.length : Nat) : Int)) = false := decide_eq_false pw2
  rw [if_neg (by omega)] at hN
  repeat (first | refine gG ?_ | refine zN1 (fun hlen => ?_) | refine zN2 (fun hlen => ?_) | refine zAl (fun _ => ?_) | refine zBf ?_)
  refine x_loop [2, 4, 23, 24, 25, 26, 27, 28, 29, 30, 31, 32, 33, 34, 35, 36, 37, 38, 39, 40, 41, 42, 43, 44, 45, 46, 47, 48, 49, 50, 51, 52, 53, 54, 55, 56, 57, 58] (fun k : Nat => [(23, .c (.lit (.int .i64 (k : Nat))))]) (fun _ => []) (fun k => k ≤ ls.length ∧ ETo eL ls k) (fun k => ls.length - k) 0 ⟨Nat.zero_le _, eTo_zero _ _⟩ ⟨rfl, trivial⟩ rfl ?_
  rintro k ⟨hk, hE⟩
  repeat (first | refine gG ?_ | refine zN1 (fun hlen => ?_) | refine zN2 (fun hlen => ?_) | refine zAl (fun _ => ?_) | refine zBf ?_)
  refine x_cond rfl (fun h => ?_) (fun h => ?_)
  · have hk' : k < ls.length := by simpa using h
    obtain ⟨l, hl⟩ := nth hk'
    have hlt := flat_at Ln.ts 2 Ln.ts_len hl
    have hb := eTo_bad hE hl
    have hs := eTo_step hE hl
    rw [hL1] at hb hs
    clear h hl hE hL1 hW1 hD1
    obtain ⟨la, lb⟩ := l
    try dsimp only at hb hs
    by_cases pa1 : la < 0
    · have a1 : decide (la < 0) = true := decide_eq_true pa1
      rw [if_pos (by omega)] at hb
      have hr := hb (by omega)
      rw [hr, if_neg (by omega)] at hN
      clear hb hs hr
      repeat (first | refine gG ?_ | refine zN1 (fun hlen => ?_) | refine zN2 (fun hlen => ?_) | refine zAl (fun _ => ?_) | refine zBf ?_)
      refine zIx (k) (hk') ?_
      repeat (first | refine gG ?_ | refine zN1 (fun hlen => ?_) | refine zN2 (fun hlen => ?_) | refine zAl (fun _ => ?_) | refine zBx (fun _ => ?_))
      refine zEl (hlt) (Ln.ts_len _) ?_
      repeat (first | refine gG ?_ | refine zN1 (fun hlen => ?_) | refine zN2 (fun hlen => ?_) | refine zAl (fun _ => ?_) | refine zBf ?_)
      first | refine zR ?_ | refine zQ ?_
      rw [hN]; rfl
    have a1 : decide (la < 0) = false := decide_eq_false pa1
    by_cases pa2 : lb < 0
    · have a2 : decide (lb < 0) = true := decide_eq_true pa2
      rw [if_pos (by omega)] at hb
      have hr := hb (by omega)
      rw [hr, if_neg (by omega)] at hN
      clear hb hs hr
      repeat (first | refine gG ?_ | refine zN1 (fun hlen => ?_) | refine zN2 (fun hlen => ?_) | refine zAl (fun _ => ?_) | refine zBf ?_)
      refine zIx (k) (hk') ?_
      repeat (first | refine gG ?_ | refine zN1 (fun hlen => ?_) | refine zN2 (fun hlen => ?_) | refine zAl (fun _ => ?_) | refine zBx (fun _ => ?_))
      refine zEl (hlt) (Ln.ts_len _) ?_
      repeat (first | refine gG ?_ | refine zN1 (fun hlen => ?_) | refine zN2 (fun hlen => ?_) | refine zAl (fun _ => ?_) | refine zBf ?_)
      first | refine zR ?_ | refine zQ ?_
      rw [hN]; rfl
    have a2 : decide (lb < 0) = false := decide_eq_false pa2
    by_cases pa3 : ((ws.length : Nat) : Int) ≤ la
    · have a3 : decide (((ws.length : Nat) : Int) ≤ la) = true := decide_eq_true pa3
      rw [if_pos (by omega)] at hb
      have hr := hb (by omega)
      rw [hr, if_neg (by omega)] at hN
      clear hb hs hr
      repeat (first | refine gG ?_ | refine zN1 (fun hlen => ?_) | refine zN2 (fun hlen => ?_) | refine zAl (fun _ => ?_) | refine zBf ?_)
      refine zIx (k) (hk') ?_
      repeat (first | refine gG ?_ | refine zN1 (fun hlen => ?_) | refine zN2 (fun hlen => ?_) | refine zAl (fun _ => ?_) | refine zBx (fun _ => ?_))
      refine zEl (hlt) (Ln.ts_len _) ?_
      repeat (first | refine gG ?_ | refine zN1 (fun hlen => ?_) | refine zN2 (fun hlen => ?_) | refine zAl (fun _ => ?_) | refine zBf ?_)
      first | refine zR ?_ | refine zQ ?_
      rw [hN]; rfl
    have a3 : decide (((ws.length : Nat) : Int) ≤ la) = false := decide_eq_false pa3
    by_cases pa4 : ((ws.length : Nat) : Int) ≤ lb
    · have a4 : decide (((ws.length : Nat) : Int) ≤ lb) = true := decide_eq_true pa4
      rw [if_pos (by omega)] at hb
      have hr := hb (by omega)
      rw [hr, if_neg (by omega)] at hN
      clear hb hs hr
      repeat (first | refine gG ?_ | refine zN1 (fun hlen => ?_) | refine zN2 (fun hlen => ?_) | refine zAl (fun _ => ?_) | refine zBf ?_)
      refine zIx (k) (hk') ?_
      repeat (first | refine gG ?_ | refine zN1 (fun hlen => ?_) | refine zN2 (fun hlen => ?_) | refine zAl (fun _ => ?_) | refine zBx (fun _ => ?_))
      refine zEl (hlt) (Ln.ts_len _) ?_
      repeat (first | refine gG ?_ | refine zN1 (fun hlen => ?_) | refine zN2 (fun hlen => ?_) | refine zAl (fun _ => ?_) | refine zBf ?_)
      first | refine zR ?_ | refine zQ ?_
      rw [hN]; rfl
    have a4 : decide (((ws.length : Nat) : Int) ≤ lb) = false := decide_eq_false pa4
    by_cases pa5 : la = lb
    · have a5 : decide (la = lb) = true := decide_eq_true pa5
      rw [if_pos (by omega)] at hb
      have hr := hb (by omega)
      rw [hr, if_neg (by omega)] at hN
      clear hb hs hr
      repeat (first | refine gG ?_ | refine zN1 (fun hlen => ?_) | refine zN2 (fun hlen => ?_) | refine zAl (fun _ => ?_) | refine zBf ?_)
      refine zIx (k) (hk') ?_
      repeat (first | refine gG ?_ | refine zN1 (fun hlen => ?_) | refine zN2 (fun hlen => ?_) | refine zAl (fun _ => ?_) | refine zBx (fun _ => ?_))
      refine zEl (hlt) (Ln.ts_len _) ?_
      repeat (first | refine gG ?_ | refine zN1 (fun hlen => ?_) | refine zN2 (fun hlen => ?_) | refine zAl (fun _ => ?_) | refine zBf ?_)
      first | refine zR ?_ | refine zQ ?_
      rw [hN]; rfl
    have a5 : decide (la = lb) = false := decide_eq_false pa5
    rw [if_neg (by omega)] at hs
    replace hs := hs rfl
    clear hb
    repeat (first | refine gG ?_ | refine zN1 (fun hlen => ?_) | refine zN2 (fun hlen => ?_) | refine zAl (fun _ => ?_) | refine zBf ?_)
    refine zIx (k) (hk') ?_
    repeat (first | refine gG ?_ | refine zN1 (fun hlen => ?_) | refine zN2 (fun hlen => ?_) | refine zAl (fun _ => ?_) | refine zBx (fun _ => ?_))
    refine zEl (hlt) (Ln.ts_len _) ?_
    repeat (first | refine gG ?_ | refine zN1 (fun hlen => ?_) | refine zN2 (fun hlen => ?_) | refine zAl (fun _ => ?_) | refine zBf ?_)
    exact ⟨k + 1, ⟨hk', hs⟩, by omega, x_wkd 0 ⟨rfl, trivial⟩ rfl (by repeat (first | exact ag_refl | refine ag_upd rfl ?_ | refine ag_at rfl rfl ?_))⟩
  have hk' : k = ls.length := Nat.le_antisymm hk (Nat.le_of_not_lt (by simpa using h))
  subst hk'
  have h0 := eTo_end hE
  rw [h0, if_pos rfl] at hN
  clear h hE h0 hL1
  repeat (first | refine gG ?_ | refine zN1 (fun hlen => ?_) | refine zN2 (fun hlen => ?_) | refine zAl (fun _ => ?_) | refine zBf ?_)
  refine x_loop [2, 5, 6, 8, 9, 62, 63, 64, 65, 66, 67, 68, 69, 70, 71, 72, 73, 74, 75, 76, 77, 78, 79, 80, 81, 82, 83, 84, 85, 86, 87, 88, 89, 90, 91, 92, 93, 94, 95, 96, 97, 98, 99, 100, 101, 102, 103, 104, 105, 106, 107, 108, 109, 110, 111, 112, 113, 114] (fun k : Nat => [(62, .c (.lit (.int .i64 (k : Nat))))]) (fun _ => []) (fun k => k ≤ ws.length ∧ ETo eW ws.zipIdx k) (fun k => ws.length - k) 0 ⟨Nat.zero_le _, eTo_zero _ _⟩ ⟨rfl, trivial⟩ rfl ?_
  rintro k ⟨hk, hE⟩
  repeat (first | refine gG ?_ | refine zN1 (fun hlen => ?_) | refine zN2 (fun hlen => ?_) | refine zAl (fun _ => ?_) | refine zBf ?_)
  refine x_cond rfl (fun h => ?_) (fun h => ?_)
  rotate_left
  · have hk' : k = ws.length := Nat.le_antisymm hk (Nat.le_of_not_lt (by simpa using h))
    subst hk'
    have h0 := eTo_end (l := ws.zipIdx) (by rw [List.length_zipIdx]; exact hE)
    rw [h0] at hN
    clear h hE h0
    repeat (first | refine gG ?_ | refine zN1 (fun hlen => ?_) | refine zN2 (fun hlen => ?_) | refine zAl (fun _ => ?_) | refine zBf ?_)
    first | refine zR ?_ | refine zQ ?_
    rw [hN]; rfl
  have hk' : k < ws.length := by simpa using h
  obtain ⟨w, hw⟩ := nth hk'
  have hwt := who_at hw
  have hb := eTo_bad hE (zip_idx hw)
  have hs := eTo_step hE (zip_idx hw)
  rw [hW1] at hb hs
  try dsimp only at hb hs
  clear h hw hE hW1
  by_cases pwl : (40 : Int) < ((w.length : Nat) : Int)
  · have wl : decide ((40 : Int) < ((w.length : Nat) : Int)) = true := decide_eq_true pwl
    rw [if_pos (by omega)] at hb
    have hr := hb (by omega)
    rw [hr] at hN
    clear hb hs hr
    repeat (first | refine gG ?_ | refine zN1 (fun hlen => ?_) | refine zN2 (fun hlen => ?_) | refine zAl (fun _ => ?_) | refine zBf ?_)
    refine zIx k hk' ?_
    repeat (first | refine gG ?_ | refine zN1 (fun hlen => ?_) | refine zN2 (fun hlen => ?_) | refine zAl (fun _ => ?_) | refine zBf ?_)
    refine zEl1 hwt ?_
    repeat (first | refine gG ?_ | refine zN1 (fun hlen => ?_) | refine zN2 (fun hlen => ?_) | refine zAl (fun _ => ?_) | refine zBf ?_)
    first | refine zR ?_ | refine zQ ?_
    rw [hN]; rfl
  have wl : decide ((40 : Int) < ((w.length : Nat) : Int)) = false := decide_eq_false pwl
  rw [if_neg (by omega)] at hb hs
  repeat (first | refine gG ?_ | refine zN1 (fun hlen => ?_) | refine zN2 (fun hlen => ?_) | refine zAl (fun _ => ?_) | refine zBf ?_)
  refine zIx k hk' ?_
  repeat (first | refine gG ?_ | refine zN1 (fun hlen => ?_) | refine zN2 (fun hlen => ?_) | refine zAl (fun _ => ?_) | refine zBf ?_)
  refine zEl1 hwt ?_
  repeat (first | refine gG ?_ | refine zN1 (fun hlen => ?_) | refine zN2 (fun hlen => ?_) | refine zAl (fun _ => ?_) | refine zBf ?_)
  refine x_loop [2, 8, 9, 72, 73, 74, 75, 76, 77, 78, 79, 80, 81, 82, 83, 84, 85, 86, 87, 88, 89, 90, 91, 92, 93, 94, 95, 96, 97, 98, 99, 100, 101, 102, 103, 104, 105, 106, 107, 108, 109, 110, 111, 112, 113] (fun j : Nat => [(72, .c (.lit (.int .i64 (j : Nat))))]) (fun _ => []) (fun j => j ≤ w.length ∧ ETo (eD k) w j) (fun j => w.length - j) 0 ⟨Nat.zero_le _, eTo_zero _ _⟩ ⟨rfl, trivial⟩ rfl ?_
  rintro j ⟨hj, hE⟩
  repeat (first | refine gG ?_ | refine zN1 (fun hlen => ?_) | refine zN2 (fun hlen => ?_) | refine zAl (fun _ => ?_) | refine zBf ?_)
  refine x_cond rfl (fun h => ?_) (fun h => ?_)
  rotate_left
  · have hj' : j = w.length := Nat.le_antisymm hj (Nat.le_of_not_lt (by simpa using h))
    subst hj'
    have hs1 := hs (eTo_end hE)
    clear h hE hb hs
    repeat (first | refine gG ?_ | refine zN1 (fun hlen => ?_) | refine zN2 (fun hlen => ?_) | refine zAl (fun _ => ?_) | refine zBf ?_)
    exact ⟨k + 1, ⟨hk', hs1⟩, by omega, x_wkd 0 ⟨rfl, trivial⟩ rfl (by repeat (first | exact ag_refl | refine ag_upd rfl ?_ | refine ag_at rfl rfl ?_))⟩
  have hj' : j < w.length := by simpa using h
  obtain ⟨d, hd⟩ := nth hj'
  have hdt := flat_at Dd.ts 3 Dd.ts_len hd
  have hb1 := eTo_bad hE hd
  have hs1 := eTo_step hE hd
  rw [hD1] at hb1 hs1
  clear h hd hE hD1 hs
  obtain ⟨dl, ds, dm⟩ := d
  try dsimp only at hb1 hs1
  by_cases pb1 : dl < 0
  · have b1 : decide (dl < 0) = true := decide_eq_true pb1
    rw [if_pos (by omega)] at hb1
    have hr := hb1 (by omega)
    rw [hr] at hb
    rw [hb (by omega)] at hN
    clear hb hb1 hs1 hr
    repeat (first | refine gG ?_ | refine zN1 (fun hlen => ?_) | refine zN2 (fun hlen => ?_) | refine zAl (fun _ => ?_) | refine zBf ?_)
    refine zIx (j) (hj') ?_
    repeat (first | refine gG ?_ | refine zN1 (fun hlen => ?_) | refine zN2 (fun hlen => ?_) | refine zAl (fun _ => ?_) | refine zBx (fun _ => ?_))
    refine zEl (hdt) (Dd.ts_len _) ?_
    repeat (first | refine gG ?_ | refine zN1 (fun hlen => ?_) | refine zN2 (fun hlen => ?_) | refine zAl (fun _ => ?_) | refine zBf ?_)
    first | refine zR ?_ | refine zQ ?_
    rw [hN]; rfl
  have b1 : decide (dl < 0) = false := decide_eq_false pb1
  by_cases pb2 : ((ls.length : Nat) : Int) ≤ dl
  · have b2 : decide (((ls.length : Nat) : Int) ≤ dl) = true := decide_eq_true pb2
    rw [if_pos (by omega)] at hb1
    have hr := hb1 (by omega)
    rw [hr] at hb
    rw [hb (by omega)] at hN
    clear hb hb1 hs1 hr
    repeat (first | refine gG ?_ | refine zN1 (fun hlen => ?_) | refine zN2 (fun hlen => ?_) | refine zAl (fun _ => ?_) | refine zBf ?_)
    refine zIx (j) (hj') ?_
    repeat (first | refine gG ?_ | refine zN1 (fun hlen => ?_) | refine zN2 (fun hlen => ?_) | refine zAl (fun _ => ?_) | refine zBx (fun _ => ?_))
    refine zEl (hdt) (Dd.ts_len _) ?_
    repeat (first | refine gG ?_ | refine zN1 (fun hlen => ?_) | refine zN2 (fun hlen => ?_) | refine zAl (fun _ => ?_) | refine zBf ?_)
    first | refine zR ?_ | refine zQ ?_
    rw [hN]; rfl
  have b2 : decide (((ls.length : Nat) : Int) ≤ dl) = false := decide_eq_false pb2
  by_cases pb3 : dm < 0
  · have b3 : decide (dm < 0) = true := decide_eq_true pb3
    rw [if_pos (by omega)] at hb1
    have hr := hb1 (by omega)
    rw [hr] at hb
    rw [hb (by omega)] at hN
    clear hb hb1 hs1 hr
    repeat (first | refine gG ?_ | refine zN1 (fun hlen => ?_) | refine zN2 (fun hlen => ?_) | refine zAl (fun _ => ?_) | refine zBf ?_)
    refine zIx (j) (hj') ?_
    repeat (first | refine gG ?_ | refine zN1 (fun hlen => ?_) | refine zN2 (fun hlen => ?_) | refine zAl (fun _ => ?_) | refine zBx (fun _ => ?_))
    refine zEl (hdt) (Dd.ts_len _) ?_
    repeat (first | refine gG ?_ | refine zN1 (fun hlen => ?_) | refine zN2 (fun hlen => ?_) | refine zAl (fun _ => ?_) | refine zBf ?_)
    first | refine zR ?_ | refine zQ ?_
    rw [hN]; rfl
  have b3 : decide (dm < 0) = false := decide_eq_false pb3
  by_cases pb4 : (20 : Int) < dm
  · have b4 : decide ((20 : Int) < dm) = true := decide_eq_true pb4
    rw [if_pos (by omega)] at hb1
    have hr := hb1 (by omega)
    rw [hr] at hb
    rw [hb (by omega)] at hN
    clear hb hb1 hs1 hr
    repeat (first | refine gG ?_ | refine zN1 (fun hlen => ?_) | refine zN2 (fun hlen => ?_) | refine zAl (fun _ => ?_) | refine zBf ?_)
    refine zIx (j) (hj') ?_
    repeat (first | refine gG ?_ | refine zN1 (fun hlen => ?_) | refine zN2 (fun hlen => ?_) | refine zAl (fun _ => ?_) | refine zBx (fun _ => ?_))
    refine zEl (hdt) (Dd.ts_len _) ?_
    repeat (first | refine gG ?_ | refine zN1 (fun hlen => ?_) | refine zN2 (fun hlen => ?_) | refine zAl (fun _ => ?_) | refine zBf ?_)
    first | refine zR ?_ | refine zQ ?_
    rw [hN]; rfl
  have b4 : decide ((20 : Int) < dm) = false := decide_eq_false pb4
  rw [if_neg (by omega)] at hb1 hs1
  obtain ⟨i, rfl⟩ : ∃ i : Nat, dl = (i : Int) := ⟨dl.toNat, by omega⟩
  have hil : i < ls.length := by omega
  obtain ⟨l, hl⟩ := nth hil
  rw [lnAt_eq hl] at hb1 hs1
  have hlt := flat_at Ln.ts 2 Ln.ts_len hl
  clear hl
  obtain ⟨la, lb⟩ := l
  try dsimp only at hb1 hs1
  by_cases pc1 : la = ((k : Nat) : Int)
  · have c1 : decide (la = ((k : Nat) : Int)) = true := decide_eq_true pc1
    rw [if_neg (by omega)] at hs1
    replace hs1 := hs1 rfl
    clear hb1 hb
    repeat (first | refine gG ?_ | refine zN1 (fun hlen => ?_) | refine zN2 (fun hlen => ?_) | refine zAl (fun _ => ?_) | refine zBf ?_)
    refine zIx (j) (hj') ?_
    repeat (first | refine gG ?_ | refine zN1 (fun hlen => ?_) | refine zN2 (fun hlen => ?_) | refine zAl (fun _ => ?_) | refine zBx (fun _ => ?_))
    refine zEl (hdt) (Dd.ts_len _) ?_
    repeat (first | refine gG ?_ | refine zN1 (fun hlen => ?_) | refine zN2 (fun hlen => ?_) | refine zAl (fun _ => ?_) | refine zBf ?_)
    refine zIx (i) (hil) ?_
    repeat (first | refine gG ?_ | refine zN1 (fun hlen => ?_) | refine zN2 (fun hlen => ?_) | refine zAl (fun _ => ?_) | refine zBx (fun _ => ?_))
    refine zEl (hlt) (Ln.ts_len _) ?_
    repeat (first | refine gG ?_ | refine zN1 (fun hlen => ?_) | refine zN2 (fun hlen => ?_) | refine zAl (fun _ => ?_) | refine zBf ?_)
    exact ⟨j + 1, ⟨hj', hs1⟩, by omega, x_wkd 0 ⟨rfl, trivial⟩ rfl (by repeat (first | exact ag_refl | refine ag_upd rfl ?_ | refine ag_at rfl rfl ?_))⟩
  have c1 : decide (la = ((k : Nat) : Int)) = false := decide_eq_false pc1
  by_cases pc2 : lb = ((k : Nat) : Int)
  · have c2 : decide (lb = ((k : Nat) : Int)) = true := decide_eq_true pc2
    rw [if_neg (by omega)] at hs1
    replace hs1 := hs1 rfl
    clear hb1 hb
    repeat (first | refine gG ?_ | refine zN1 (fun hlen => ?_) | refine zN2 (fun hlen => ?_) | refine zAl (fun _ => ?_) | refine zBf ?_)
    refine zIx (j) (hj') ?_
    repeat (first | refine gG ?_ | refine zN1 (fun hlen => ?_) | refine zN2 (fun hlen => ?_) | refine zAl (fun _ => ?_) | refine zBx (fun _ => ?_))
    refine zEl (hdt) (Dd.ts_len _) ?_
    repeat (first | refine gG ?_ | refine zN1 (fun hlen => ?_) | refine zN2 (fun hlen => ?_) | refine zAl (fun _ => ?_) | refine zBf ?_)
    refine zIx (i) (hil) ?_
    repeat (first | refine gG ?_ | refine zN1 (fun hlen => ?_) | refine zN2 (fun hlen => ?_) | refine zAl (fun _ => ?_) | refine zBx (fun _ => ?_))
    refine zEl (hlt) (Ln.ts_len _) ?_
    repeat (first | refine gG ?_ | refine zN1 (fun hlen => ?_) | refine zN2 (fun hlen => ?_) | refine zAl (fun _ => ?_) | refine zBf ?_)
    exact ⟨j + 1, ⟨hj', hs1⟩, by omega, x_wkd 0 ⟨rfl, trivial⟩ rfl (by repeat (first | exact ag_refl | refine ag_upd rfl ?_ | refine ag_at rfl rfl ?_))⟩
  have c2 : decide (lb = ((k : Nat) : Int)) = false := decide_eq_false pc2
  rw [if_pos (by omega)] at hb1
  have hr := hb1 (by omega)
  rw [hr] at hb
  rw [hb (by omega)] at hN
  clear hb hb1 hs1 hr
  repeat (first | refine gG ?_ | refine zN1 (fun hlen => ?_) | refine zN2 (fun hlen => ?_) | refine zAl (fun _ => ?_) | refine zBf ?_)
  refine zIx (j) (hj') ?_
  repeat (first | refine gG ?_ | refine zN1 (fun hlen => ?_) | refine zN2 (fun hlen => ?_) | refine zAl (fun _ => ?_) | refine zBx (fun _ => ?_))
  refine zEl (hdt) (Dd.ts_len _) ?_
  repeat (first | refine gG ?_ | refine zN1 (fun hlen => ?_) | refine zN2 (fun hlen => ?_) | refine zAl (fun _ => ?_) | refine zBf ?_)
  refine zIx (i) (hil) ?_
  repeat (first | refine gG ?_ | refine zN1 (fun hlen => ?_) | refine zN2 (fun hlen => ?_) | refine zAl (fun _ => ?_) | refine zBx (fun _ => ?_))
  refine zEl (hlt) (Ln.ts_len _) ?_
  repeat (first | refine gG ?_ | refine zN1 (fun hlen => ?_) | refine zN2 (fun hlen => ?_) | refine zAl (fun _ => ?_) | refine zBf ?_)
  first | refine zR ?_ | refine zQ ?_
  rw [hN]; rfl
end Go.Proofs.Ytaoldigfefmamaa
namespace Go.Proofs.Ytaoldigfefmamaa
open Go.RowKit
set_option maxRecDepth 100000 in
set_option maxHeartbeats 8000000 in
theorem netErr_af (n : Nt) : AF Try.prog 9 [n.t3] (· = .lit (.int .i64 (netE n))) := by
  obtain ⟨ls, ws⟩ := n
  have hN : netE ⟨ls, ws⟩ = if 8 < ws.length ∨ 12 < ls.length then 2 else if firstE (lnE ws.length) ls = 0 then firstE (whoE ls) ws.zipIdx else firstE (lnE ws.length) ls := rfl
  generalize netE ⟨ls, ws⟩ = r at *
  have hL1 : ∀ l : Ln, lnE ws.length l = if l.a < 0 ∨ l.b < 0 ∨ (ws.length : Int) ≤ l.a ∨ (ws.length : Int) ≤ l.b ∨ l.a = l.b then 1 else 0 := fun _ => rfl
  have hW1 : ∀ p : List Dd × Nat, whoE ls p = if 40 < p.1.length then 2 else firstE (ddE ls p.2) p.1 := fun _ => rfl
  have hD1 : ∀ (w : Nat) (d : Dd), ddE ls w d = if d.line < 0 ∨ (ls.length : Int) ≤ d.line ∨ d.msg < 0 ∨ 20 < d.msg then 1 else if ¬ (lnAt ls d.line).a = w ∧ ¬ (lnAt ls d.line).b = w then 7 else 0 := fun _ _ => rfl
  generalize lnE ws.length = eL at *
  generalize whoE ls = eW at *
  generalize ddE ls = eD at *
  refine af_enter tok Try.func9 Try.ntmps9 Try.results9 rfl (by kernel_rfl) rfl rfl fun F hX => ?_
  by_cases pw1 : (8 : Int) < ((ws.length : Nat) : Int)
  · have w1 : decide ((8 : Int) < ((ws.length : Nat) : Int)) = true := decide_eq_true pw1
    repeat (first | refine zIxb 0 ?_ | refine zIxb 1 ?_ | refine zIxb 2 ?_ | refine zMin ?_ | refine zMax ?_ | refine gG ?_ | refine zN1 (fun hlen => ?_) | refine zN2 (fun hlen => ?_) | refine zAl (fun _ => ?_) | refine zBf ?_ | refine zAp (fun _ => ?_))
    first | refine zR ?_ | refine zQ ?_
    rw [hN, if_pos (by omega)]; rfl
  have w1 : decide ((8 : Int) < ((ws.length : Nat) : Int)) = false := decide_eq_false pw1
  by_cases pw2 : (12 : Int) < ((ls.length : Nat) : Int)
  · have w2 : decide ((12 : Int) < ((ls.length : Nat) : Int)) = true := decide_eq_true pw2
    repeat (first | refine zIxb 0 ?_ | refine zIxb 1 ?_ | refine zIxb 2 ?_ | refine zMin ?_ | refine zMax ?_ | refine gG ?_ | refine zN1 (fun hlen => ?_) | refine zN2 (fun hlen => ?_) | refine zAl (fun _ => ?_) | refine zBf ?_ | refine zAp (fun _ => ?_))
    first | refine zR ?_ | refine zQ ?_
    rw [hN, if_pos (by omega)]; rfl
  have w2 : decide ((12 : Int) < ((ls.length : Nat) : Int)) = false := decide_eq_false pw2
  rw [if_neg (by omega)] at hN
  repeat (first | refine zIxb 0 ?_ | refine zIxb 1 ?_ | refine zIxb 2 ?_ | refine zMin ?_ | refine zMax ?_ | refine gG ?_ | refine zN1 (fun hlen => ?_) | refine zN2 (fun hlen => ?_) | refine zAl (fun _ => ?_) | refine zBf ?_ | refine zAp (fun _ => ?_))
  refine x_loop [2, 4, 22, 23, 24, 25, 26, 27, 28, 29, 30, 31, 32, 33, 34, 35, 36, 37, 38, 39, 40, 41, 42, 43, 44, 45, 46, 47, 48, 49, 50] (fun k : Nat => [(22, .c (.lit (.int .i64 (k : Nat))))]) (fun _ => []) (fun k => k ≤ ls.length ∧ ETo eL ls k) (fun k => ls.length - k) 0 ⟨Nat.zero_le _, eTo_zero _ _⟩ ⟨rfl, trivial⟩ rfl ?_
  rintro k ⟨hk, hE⟩
  repeat (first | refine zIxb 0 ?_ | refine zIxb 1 ?_ | refine zIxb 2 ?_ | refine zMin ?_ | refine zMax ?_ | refine gG ?_ | refine zN1 (fun hlen => ?_) | refine zN2 (fun hlen => ?_) | refine zAl (fun _ => ?_) | refine zBf ?_ | refine zAp (fun _ => ?_))
  refine x_cond rfl (fun h => ?_) (fun h => ?_)
  · have hk' : k < ls.length := by simpa using h
    obtain ⟨l, hl⟩ := nth hk'
    have hlt := flat_at Ln.ts 2 Ln.ts_len hl
    have hb := eTo_bad hE hl
    have hs := eTo_step hE hl
    rw [hL1] at hb hs
    clear h hl hE hL1 hW1 hD1
    obtain ⟨la, lb⟩ := l
    try dsimp only at hb hs
    by_cases pa1 : min la lb < 0
    · have a1 : decide (min la lb < 0) = true := decide_eq_true pa1
      rw [if_pos (by omega)] at hb
      have hr := hb (by omega)
      rw [hr, if_neg (by omega)] at hN
      clear hb hs hr
      repeat (first | refine zIxb 0 ?_ | refine zIxb 1 ?_ | refine zIxb 2 ?_ | refine zMin ?_ | refine zMax ?_ | refine gG ?_ | refine zN1 (fun hlen => ?_) | refine zN2 (fun hlen => ?_) | refine zAl (fun _ => ?_) | refine zBf ?_ | refine zAp (fun _ => ?_))
      refine zIx (k) (hk') ?_
      repeat (first | refine gG ?_ | refine zN1 (fun hlen => ?_) | refine zN2 (fun hlen => ?_) | refine zAl (fun _ => ?_) | refine zBx (fun _ => ?_))
      refine zEl (hlt) (Ln.ts_len _) ?_
      repeat (first | refine zIxb 0 ?_ | refine zIxb 1 ?_ | refine zIxb 2 ?_ | refine zMin ?_ | refine zMax ?_ | refine gG ?_ | refine zN1 (fun hlen => ?_) | refine zN2 (fun hlen => ?_) | refine zAl (fun _ => ?_) | refine zBf ?_ | refine zAp (fun _ => ?_))
      first | refine zR ?_ | refine zQ ?_
      rw [hN]; rfl
    have a1 : decide (min la lb < 0) = false := decide_eq_false pa1
    by_cases pa2 : ((ws.length : Nat) : Int) ≤ max la lb
    · have a2 : decide (((ws.length : Nat) : Int) ≤ max la lb) = true := decide_eq_true pa2
      rw [if_pos (by omega)] at hb
      have hr := hb (by omega)
      rw [hr, if_neg (by omega)] at hN
      clear hb hs hr
      repeat (first | refine zIxb 0 ?_ | refine zIxb 1 ?_ | refine zIxb 2 ?_ | refine zMin ?_ | refine zMax ?_ | refine gG ?_ | refine zN1 (fun hlen => ?_) | refine zN2 (fun hlen => ?_) | refine zAl (fun _ => ?_) | refine zBf ?_ | refine zAp (fun _ => ?_))
      refine zIx (k) (hk') ?_
      repeat (first | refine gG ?_ | refine zN1 (fun hlen => ?_) | refine zN2 (fun hlen => ?_) | refine zAl (fun _ => ?_) | refine zBx (fun _ => ?_))
      refine zEl (hlt) (Ln.ts_len _) ?_
      repeat (first | refine zIxb 0 ?_ | refine zIxb 1 ?_ | refine zIxb 2 ?_ | refine zMin ?_ | refine zMax ?_ | refine gG ?_ | refine zN1 (fun hlen => ?_) | refine zN2 (fun hlen => ?_) | refine zAl (fun _ => ?_) | refine zBf ?_ | refine zAp (fun _ => ?_))
      first | refine zR ?_ | refine zQ ?_
      rw [hN]; rfl
    have a2 : decide (((ws.length : Nat) : Int) ≤ max la lb) = false := decide_eq_false pa2
    by_cases pa3 : la = lb
    · have a3 : decide (la = lb) = true := decide_eq_true pa3
      rw [if_pos (by omega)] at hb
      have hr := hb (by omega)
      rw [hr, if_neg (by omega)] at hN
      clear hb hs hr
      repeat (first | refine zIxb 0 ?_ | refine zIxb 1 ?_ | refine zIxb 2 ?_ | refine zMin ?_ | refine zMax ?_ | refine gG ?_ | refine zN1 (fun hlen => ?_) | refine zN2 (fun hlen => ?_) | refine zAl (fun _ => ?_) | refine zBf ?_ | refine zAp (fun _ => ?_))
      refine zIx (k) (hk') ?_
      repeat (first | refine gG ?_ | refine zN1 (fun hlen => ?_) | refine zN2 (fun hlen => ?_) | refine zAl (fun _ => ?_) | refine zBx (fun _ => ?_))
      refine zEl (hlt) (Ln.ts_len _) ?_
      repeat (first | refine zIxb 0 ?_ | refine zIxb 1 ?_ | refine zIxb 2 ?_ | refine zMin ?_ | refine zMax ?_ | refine gG ?_ | refine zN1 (fun hlen => ?_) | refine zN2 (fun hlen => ?_) | refine zAl (fun _ => ?_) | refine zBf ?_ | refine zAp (fun _ => ?_))
      first | refine zR ?_ | refine zQ ?_
      rw [hN]; rfl
    have a3 : decide (la = lb) = false := decide_eq_false pa3
    rw [if_neg (by omega)] at hs
    replace hs := hs rfl
    clear hb
    repeat (first | refine zIxb 0 ?_ | refine zIxb 1 ?_ | refine zIxb 2 ?_ | refine zMin ?_ | refine zMax ?_ | refine gG ?_ | refine zN1 (fun hlen => ?_) | refine zN2 (fun hlen => ?_) | refine zAl (fun _ => ?_) | refine zBf ?_ | refine zAp (fun _ => ?_))
    refine zIx (k) (hk') ?_
    repeat (first | refine gG ?_ | refine zN1 (fun hlen => ?_) | refine zN2 (fun hlen => ?_) | refine zAl (fun _ => ?_) | refine zBx (fun _ => ?_))
    refine zEl (hlt) (Ln.ts_len _) ?_
    repeat (first | refine zIxb 0 ?_ | refine zIxb 1 ?_ | refine zIxb 2 ?_ | refine zMin ?_ | refine zMax ?_ | refine gG ?_ | refine zN1 (fun hlen => ?_) | refine zN2 (fun hlen => ?_) | refine zAl (fun _ => ?_) | refine zBf ?_ | refine zAp (fun _ => ?_))
    exact ⟨k + 1, ⟨hk', hs⟩, by omega, x_wkd 0 ⟨rfl, trivial⟩ rfl (by repeat (first | exact ag_refl | refine ag_upd rfl ?_ | refine ag_at rfl rfl ?_))⟩
  have hk' : k = ls.length := Nat.le_antisymm hk (Nat.le_of_not_lt (by simpa using h))
  subst hk'
  have h0 := eTo_end hE
  rw [h0, if_pos rfl] at hN
  clear h hE h0 hL1
  repeat (first | refine zIxb 0 ?_ | refine zIxb 1 ?_ | refine zIxb 2 ?_ | refine zMin ?_ | refine zMax ?_ | refine gG ?_ | refine zN1 (fun hlen => ?_) | refine zN2 (fun hlen => ?_) | refine zAl (fun _ => ?_) | refine zBf ?_ | refine zAp (fun _ => ?_))
  refine x_loop [2, 5, 6, 8, 54, 55, 56, 57, 58, 59, 60, 61, 62, 63, 64, 65, 66, 67, 68, 69, 70, 71, 72, 73, 74, 75, 76, 77, 78, 79, 80, 81, 82, 83, 84, 85, 86, 87, 88, 89, 90, 91, 92, 93, 94, 95, 96, 97, 98, 99] (fun k : Nat => [(54, .c (.lit (.int .i64 (k : Nat))))]) (fun _ => []) (fun k => k ≤ ws.length ∧ ETo eW ws.zipIdx k) (fun k => ws.length - k) 0 ⟨Nat.zero_le _, eTo_zero _ _⟩ ⟨rfl, trivial⟩ rfl ?_
  rintro k ⟨hk, hE⟩
  repeat (first | refine zIxb 0 ?_ | refine zIxb 1 ?_ | refine zIxb 2 ?_ | refine zMin ?_ | refine zMax ?_ | refine gG ?_ | refine zN1 (fun hlen => ?_) | refine zN2 (fun hlen => ?_) | refine zAl (fun _ => ?_) | refine zBf ?_ | refine zAp (fun _ => ?_))
  refine x_cond rfl (fun h => ?_) (fun h => ?_)
  rotate_left
  · have hk' : k = ws.length := Nat.le_antisymm hk (Nat.le_of_not_lt (by simpa using h))
    subst hk'
    have h0 := eTo_end (l := ws.zipIdx) (by rw [List.length_zipIdx]; exact hE)
    rw [h0] at hN
    clear h hE h0
    repeat (first | refine zIxb 0 ?_ | refine zIxb 1 ?_ | refine zIxb 2 ?_ | refine zMin ?_ | refine zMax ?_ | refine gG ?_ | refine zN1 (fun hlen => ?_) | refine zN2 (fun hlen => ?_) | refine zAl (fun _ => ?_) | refine zBf ?_ | refine zAp (fun _ => ?_))
    first | refine zR ?_ | refine zQ ?_
    rw [hN]; rfl
  have hk' : k < ws.length := by simpa using h
  obtain ⟨w, hw⟩ := nth hk'
  have hwt := who_at3 hw
  have hb := eTo_bad hE (zip_idx hw)
  have hs := eTo_step hE (zip_idx hw)
  rw [hW1] at hb hs
  try dsimp only at hb hs
  clear h hw hE hW1
  by_cases pwl : (40 : Int) < ((w.length : Nat) : Int)
  · have wl : decide ((40 : Int) < ((w.length : Nat) : Int)) = true := decide_eq_true pwl
    rw [if_pos (by omega)] at hb
    have hr := hb (by omega)
    rw [hr] at hN
    clear hb hs hr
    repeat (first | refine zIxb 0 ?_ | refine zIxb 1 ?_ | refine zIxb 2 ?_ | refine zMin ?_ | refine zMax ?_ | refine gG ?_ | refine zN1 (fun hlen => ?_) | refine zN2 (fun hlen => ?_) | refine zAl (fun _ => ?_) | refine zBf ?_ | refine zAp (fun _ => ?_))
    refine zIx k hk' ?_
    repeat (first | refine zIxb 0 ?_ | refine zIxb 1 ?_ | refine zIxb 2 ?_ | refine zMin ?_ | refine zMax ?_ | refine gG ?_ | refine zN1 (fun hlen => ?_) | refine zN2 (fun hlen => ?_) | refine zAl (fun _ => ?_) | refine zBf ?_ | refine zAp (fun _ => ?_))
    refine zEl1 hwt ?_
    repeat (first | refine zIxb 0 ?_ | refine zIxb 1 ?_ | refine zIxb 2 ?_ | refine zMin ?_ | refine zMax ?_ | refine gG ?_ | refine zN1 (fun hlen => ?_) | refine zN2 (fun hlen => ?_) | refine zAl (fun _ => ?_) | refine zBf ?_ | refine zAp (fun _ => ?_))
    first | refine zR ?_ | refine zQ ?_
    rw [hN]; rfl
  have wl : decide ((40 : Int) < ((w.length : Nat) : Int)) = false := decide_eq_false pwl
  rw [if_neg (by omega)] at hb hs
  repeat (first | refine zIxb 0 ?_ | refine zIxb 1 ?_ | refine zIxb 2 ?_ | refine zMin ?_ | refine zMax ?_ | refine gG ?_ | refine zN1 (fun hlen => ?_) | refine zN2 (fun hlen => ?_) | refine zAl (fun _ => ?_) | refine zBf ?_ | refine zAp (fun _ => ?_))
  refine zIx k hk' ?_
  repeat (first | refine zIxb 0 ?_ | refine zIxb 1 ?_ | refine zIxb 2 ?_ | refine zMin ?_ | refine zMax ?_ | refine gG ?_ | refine zN1 (fun hlen => ?_) | refine zN2 (fun hlen => ?_) | refine zAl (fun _ => ?_) | refine zBf ?_ | refine zAp (fun _ => ?_))
  refine zEl1 hwt ?_
  repeat (first | refine zIxb 0 ?_ | refine zIxb 1 ?_ | refine zIxb 2 ?_ | refine zMin ?_ | refine zMax ?_ | refine gG ?_ | refine zN1 (fun hlen => ?_) | refine zN2 (fun hlen => ?_) | refine zAl (fun _ => ?_) | refine zBf ?_ | refine zAp (fun _ => ?_))
  refine x_loop [2, 8, 64, 65, 66, 67, 68, 69, 70, 71, 72, 73, 74, 75, 76, 77, 78, 79, 80, 81, 82, 83, 84, 85, 86, 87, 88, 89, 90, 91, 92, 93, 94, 95, 96, 97, 98] (fun j : Nat => [(64, .c (.lit (.int .i64 (j : Nat))))]) (fun _ => []) (fun j => j ≤ w.length ∧ ETo (eD k) w j) (fun j => w.length - j) 0 ⟨Nat.zero_le _, eTo_zero _ _⟩ ⟨rfl, trivial⟩ rfl ?_
  rintro j ⟨hj, hE⟩
  repeat (first | refine zIxb 0 ?_ | refine zIxb 1 ?_ | refine zIxb 2 ?_ | refine zMin ?_ | refine zMax ?_ | refine gG ?_ | refine zN1 (fun hlen => ?_) | refine zN2 (fun hlen => ?_) | refine zAl (fun _ => ?_) | refine zBf ?_ | refine zAp (fun _ => ?_))
  refine x_cond rfl (fun h => ?_) (fun h => ?_)
  rotate_left
  · have hj' : j = w.length := Nat.le_antisymm hj (Nat.le_of_not_lt (by simpa using h))
    subst hj'
    have hs1 := hs (eTo_end hE)
    clear h hE hb hs
    repeat (first | refine zIxb 0 ?_ | refine zIxb 1 ?_ | refine zIxb 2 ?_ | refine zMin ?_ | refine zMax ?_ | refine gG ?_ | refine zN1 (fun hlen => ?_) | refine zN2 (fun hlen => ?_) | refine zAl (fun _ => ?_) | refine zBf ?_ | refine zAp (fun _ => ?_))
    exact ⟨k + 1, ⟨hk', hs1⟩, by omega, x_wkd 0 ⟨rfl, trivial⟩ rfl (by repeat (first | exact ag_refl | refine ag_upd rfl ?_ | refine ag_at rfl rfl ?_))⟩
  have hj' : j < w.length := by simpa using h
  obtain ⟨d, hd⟩ := nth hj'
  have hdt := flat_at Dd.ts3 3 Dd.ts3_len hd
  have hb1 := eTo_bad hE hd
  have hs1 := eTo_step hE hd
  rw [hD1] at hb1 hs1
  clear h hd hE hD1 hs
  obtain ⟨dl, ds, dm⟩ := d
  try dsimp only at hb1 hs1
  by_cases pb1 : dl < 0
  · have b1 : decide (dl < 0) = true := decide_eq_true pb1
    rw [if_pos (by omega)] at hb1
    have hr := hb1 (by omega)
    rw [hr] at hb
    rw [hb (by omega)] at hN
    clear hb hb1 hs1 hr
    repeat (first | refine zIxb 0 ?_ | refine zIxb 1 ?_ | refine zIxb 2 ?_ | refine zMin ?_ | refine zMax ?_ | refine gG ?_ | refine zN1 (fun hlen => ?_) | refine zN2 (fun hlen => ?_) | refine zAl (fun _ => ?_) | refine zBf ?_ | refine zAp (fun _ => ?_))
    refine zIx (j) (hj') ?_
    repeat (first | refine gG ?_ | refine zN1 (fun hlen => ?_) | refine zN2 (fun hlen => ?_) | refine zAl (fun _ => ?_) | refine zBx (fun _ => ?_))
    refine zEl (hdt) (Dd.ts3_len _) ?_
    repeat (first | refine zIxb 0 ?_ | refine zIxb 1 ?_ | refine zIxb 2 ?_ | refine zMin ?_ | refine zMax ?_ | refine gG ?_ | refine zN1 (fun hlen => ?_) | refine zN2 (fun hlen => ?_) | refine zAl (fun _ => ?_) | refine zBf ?_ | refine zAp (fun _ => ?_))
    first | refine zR ?_ | refine zQ ?_
    rw [hN]; rfl
  have b1 : decide (dl < 0) = false := decide_eq_false pb1
  by_cases pb2 : ((ls.length : Nat) : Int) ≤ dl
  · have b2 : decide (((ls.length : Nat) : Int) ≤ dl) = true := decide_eq_true pb2
    rw [if_pos (by omega)] at hb1
    have hr := hb1 (by omega)
    rw [hr] at hb
    rw [hb (by omega)] at hN
    clear hb hb1 hs1 hr
    repeat (first | refine zIxb 0 ?_ | refine zIxb 1 ?_ | refine zIxb 2 ?_ | refine zMin ?_ | refine zMax ?_ | refine gG ?_ | refine zN1 (fun hlen => ?_) | refine zN2 (fun hlen => ?_) | refine zAl (fun _ => ?_) | refine zBf ?_ | refine zAp (fun _ => ?_))
    refine zIx (j) (hj') ?_
    repeat (first | refine gG ?_ | refine zN1 (fun hlen => ?_) | refine zN2 (fun hlen => ?_) | refine zAl (fun _ => ?_) | refine zBx (fun _ => ?_))
    refine zEl (hdt) (Dd.ts3_len _) ?_
    repeat (first | refine zIxb 0 ?_ | refine zIxb 1 ?_ | refine zIxb 2 ?_ | refine zMin ?_ | refine zMax ?_ | refine gG ?_ | refine zN1 (fun hlen => ?_) | refine zN2 (fun hlen => ?_) | refine zAl (fun _ => ?_) | refine zBf ?_ | refine zAp (fun _ => ?_))
    first | refine zR ?_ | refine zQ ?_
    rw [hN]; rfl
  have b2 : decide (((ls.length : Nat) : Int) ≤ dl) = false := decide_eq_false pb2
  by_cases pb3 : dm < 0
  · have b3 : decide (dm < 0) = true := decide_eq_true pb3
    rw [if_pos (by omega)] at hb1
    have hr := hb1 (by omega)
    rw [hr] at hb
    rw [hb (by omega)] at hN
    clear hb hb1 hs1 hr
    repeat (first | refine zIxb 0 ?_ | refine zIxb 1 ?_ | refine zIxb 2 ?_ | refine zMin ?_ | refine zMax ?_ | refine gG ?_ | refine zN1 (fun hlen => ?_) | refine zN2 (fun hlen => ?_) | refine zAl (fun _ => ?_) | refine zBf ?_ | refine zAp (fun _ => ?_))
    refine zIx (j) (hj') ?_
    repeat (first | refine gG ?_ | refine zN1 (fun hlen => ?_) | refine zN2 (fun hlen => ?_) | refine zAl (fun _ => ?_) | refine zBx (fun _ => ?_))
    refine zEl (hdt) (Dd.ts3_len _) ?_
    repeat (first | refine zIxb 0 ?_ | refine zIxb 1 ?_ | refine zIxb 2 ?_ | refine zMin ?_ | refine zMax ?_ | refine gG ?_ | refine zN1 (fun hlen => ?_) | refine zN2 (fun hlen => ?_) | refine zAl (fun _ => ?_) | refine zBf ?_ | refine zAp (fun _ => ?_))
    first | refine zR ?_ | refine zQ ?_
    rw [hN]; rfl
  have b3 : decide (dm < 0) = false := decide_eq_false pb3
  by_cases pb4 : (20 : Int) < dm
  · have b4 : decide ((20 : Int) < dm) = true := decide_eq_true pb4
    rw [if_pos (by omega)] at hb1
    have hr := hb1 (by omega)
    rw [hr] at hb
    rw [hb (by omega)] at hN
    clear hb hb1 hs1 hr
    repeat (first | refine zIxb 0 ?_ | refine zIxb 1 ?_ | refine zIxb 2 ?_ | refine zMin ?_ | refine zMax ?_ | refine gG ?_ | refine zN1 (fun hlen => ?_) | refine zN2 (fun hlen => ?_) | refine zAl (fun _ => ?_) | refine zBf ?_ | refine zAp (fun _ => ?_))
    refine zIx (j) (hj') ?_
    repeat (first | refine gG ?_ | refine zN1 (fun hlen => ?_) | refine zN2 (fun hlen => ?_) | refine zAl (fun _ => ?_) | refine zBx (fun _ => ?_))
    refine zEl (hdt) (Dd.ts3_len _) ?_
    repeat (first | refine zIxb 0 ?_ | refine zIxb 1 ?_ | refine zIxb 2 ?_ | refine zMin ?_ | refine zMax ?_ | refine gG ?_ | refine zN1 (fun hlen => ?_) | refine zN2 (fun hlen => ?_) | refine zAl (fun _ => ?_) | refine zBf ?_ | refine zAp (fun _ => ?_))
    first | refine zR ?_ | refine zQ ?_
    rw [hN]; rfl
  have b4 : decide ((20 : Int) < dm) = false := decide_eq_false pb4
  rw [if_neg (by omega)] at hb1 hs1
  obtain ⟨i, rfl⟩ : ∃ i : Nat, dl = (i : Int) := ⟨dl.toNat, by omega⟩
  have hil : i < ls.length := by omega
  obtain ⟨l, hl⟩ := nth hil
  rw [lnAt_eq hl] at hb1 hs1
  have hlt := flat_at Ln.ts 2 Ln.ts_len hl
  clear hl
  obtain ⟨la, lb⟩ := l
  try dsimp only at hb1 hs1
  by_cases pc1 : la = ((k : Nat) : Int)
  · have c1 : decide (la = ((k : Nat) : Int)) = true := decide_eq_true pc1
    have hv : ([la, lb].any fun a => decide (((k : Nat) : Int) = a)) = true := by simp; omega
    rw [if_neg (by omega)] at hs1
    replace hs1 := hs1 rfl
    clear hb1 hb
    repeat (first | refine zIxb 0 ?_ | refine zIxb 1 ?_ | refine zIxb 2 ?_ | refine zMin ?_ | refine zMax ?_ | refine gG ?_ | refine zN1 (fun hlen => ?_) | refine zN2 (fun hlen => ?_) | refine zAl (fun _ => ?_) | refine zBf ?_ | refine zAp (fun _ => ?_))
    refine zIx (j) (hj') ?_
    repeat (first | refine gG ?_ | refine zN1 (fun hlen => ?_) | refine zN2 (fun hlen => ?_) | refine zAl (fun _ => ?_) | refine zBx (fun _ => ?_))
    refine zEl (hdt) (Dd.ts3_len _) ?_
    repeat (first | refine zIxb 0 ?_ | refine zIxb 1 ?_ | refine zIxb 2 ?_ | refine zMin ?_ | refine zMax ?_ | refine gG ?_ | refine zN1 (fun hlen => ?_) | refine zN2 (fun hlen => ?_) | refine zAl (fun _ => ?_) | refine zBf ?_ | refine zAp (fun _ => ?_))
    refine zIx i hil ?_
    repeat (first | refine zIxb 0 ?_ | refine zIxb 1 ?_ | refine zIxb 2 ?_ | refine zMin ?_ | refine zMax ?_ | refine gG ?_ | refine zN1 (fun hlen => ?_) | refine zN2 (fun hlen => ?_) | refine zAl (fun _ => ?_) | refine zBf ?_ | refine zAp (fun _ => ?_))
    refine zSlp 2 (i * 2) (Ln.ts ⟨la, lb⟩) hlt (by rw [len_flat Ln.ts_len]; omega) (by omega) ?_
    repeat (first | refine zIxb 0 ?_ | refine zIxb 1 ?_ | refine zIxb 2 ?_ | refine zMin ?_ | refine zMax ?_ | refine gG ?_ | refine zN1 (fun hlen => ?_) | refine zN2 (fun hlen => ?_) | refine zAl (fun _ => ?_) | refine zBf ?_ | refine zAp (fun _ => ?_))
    refine zCall (hasInt_af [la, lb] (k : Nat)) ?_
    rintro _ rfl
    rw [hv]
    repeat (first | refine zIxb 0 ?_ | refine zIxb 1 ?_ | refine zIxb 2 ?_ | refine zMin ?_ | refine zMax ?_ | refine gG ?_ | refine zN1 (fun hlen => ?_) | refine zN2 (fun hlen => ?_) | refine zAl (fun _ => ?_) | refine zBf ?_ | refine zAp (fun _ => ?_))
    exact ⟨j + 1, ⟨hj', hs1⟩, by omega, x_wkd 0 ⟨rfl, trivial⟩ rfl (by repeat (first | exact ag_refl | refine ag_upd rfl ?_ | refine ag_at rfl rfl ?_))⟩
  have c1 : decide (la = ((k : Nat) : Int)) = false := decide_eq_false pc1
  by_cases pc2 : lb = ((k : Nat) : Int)
  · have c2 : decide (lb = ((k : Nat) : Int)) = true := decide_eq_true pc2
    have hv : ([la, lb].any fun a => decide (((k : Nat) : Int) = a)) = true := by simp; omega
    rw [if_neg (by omega)] at hs1
    replace hs1 := hs1 rfl
    clear hb1 hb
    repeat (first | refine zIxb 0 ?_ | refine zIxb 1 ?_ | refine zIxb 2 ?_ | refine zMin ?_ | refine zMax ?_ | refine gG ?_ | refine zN1 (fun hlen => ?_) | refine zN2 (fun hlen => ?_) | refine zAl (fun _ => ?_) | refine zBf ?_ | refine zAp (fun _ => ?_))
    refine zIx (j) (hj') ?_
    repeat (first | refine gG ?_ | refine zN1 (fun hlen => ?_) | refine zN2 (fun hlen => ?_) | refine zAl (fun _ => ?_) | refine zBx (fun _ => ?_))
    refine zEl (hdt) (Dd.ts3_len _) ?_
    repeat (first | refine zIxb 0 ?_ | refine zIxb 1 ?_ | refine zIxb 2 ?_ | refine zMin ?_ | refine zMax ?_ | refine gG ?_ | refine zN1 (fun hlen => ?_) | refine zN2 (fun hlen => ?_) | refine zAl (fun _ => ?_) | refine zBf ?_ | refine zAp (fun _ => ?_))
    refine zIx i hil ?_
    repeat (first | refine zIxb 0 ?_ | refine zIxb 1 ?_ | refine zIxb 2 ?_ | refine zMin ?_ | refine zMax ?_ | refine gG ?_ | refine zN1 (fun hlen => ?_) | refine zN2 (fun hlen => ?_) | refine zAl (fun _ => ?_) | refine zBf ?_ | refine zAp (fun _ => ?_))
    refine zSlp 2 (i * 2) (Ln.ts ⟨la, lb⟩) hlt (by rw [len_flat Ln.ts_len]; omega) (by omega) ?_
    repeat (first | refine zIxb 0 ?_ | refine zIxb 1 ?_ | refine zIxb 2 ?_ | refine zMin ?_ | refine zMax ?_ | refine gG ?_ | refine zN1 (fun hlen => ?_) | refine zN2 (fun hlen => ?_) | refine zAl (fun _ => ?_) | refine zBf ?_ | refine zAp (fun _ => ?_))
    refine zCall (hasInt_af [la, lb] (k : Nat)) ?_
    rintro _ rfl
    rw [hv]
    repeat (first | refine zIxb 0 ?_ | refine zIxb 1 ?_ | refine zIxb 2 ?_ | refine zMin ?_ | refine zMax ?_ | refine gG ?_ | refine zN1 (fun hlen => ?_) | refine zN2 (fun hlen => ?_) | refine zAl (fun _ => ?_) | refine zBf ?_ | refine zAp (fun _ => ?_))
    exact ⟨j + 1, ⟨hj', hs1⟩, by omega, x_wkd 0 ⟨rfl, trivial⟩ rfl (by repeat (first | exact ag_refl | refine ag_upd rfl ?_ | refine ag_at rfl rfl ?_))⟩
  have c2 : decide (lb = ((k : Nat) : Int)) = false := decide_eq_false pc2
  have hv : ([la, lb].any fun a => decide (((k : Nat) : Int) = a)) = false := by simp; omega
  rw [if_pos (by omega)] at hb1
  have hr := hb1 (by omega)
  rw [hr] at hb
  rw [hb (by omega)] at hN
  clear hb hb1 hs1 hr
  repeat (first | refine zIxb 0 ?_ | refine zIxb 1 ?_ | refine zIxb 2 ?_ | refine zMin ?_ | refine zMax ?_ | refine gG ?_ | refine zN1 (fun hlen => ?_) | refine zN2 (fun hlen => ?_) | refine zAl (fun _ => ?_) | refine zBf ?_ | refine zAp (fun _ => ?_))
  refine zIx (j) (hj') ?_
  repeat (first | refine gG ?_ | refine zN1 (fun hlen => ?_) | refine zN2 (fun hlen => ?_) | refine zAl (fun _ => ?_) | refine zBx (fun _ => ?_))
  refine zEl (hdt) (Dd.ts3_len _) ?_
  repeat (first | refine zIxb 0 ?_ | refine zIxb 1 ?_ | refine zIxb 2 ?_ | refine zMin ?_ | refine zMax ?_ | refine gG ?_ | refine zN1 (fun hlen => ?_) | refine zN2 (fun hlen => ?_) | refine zAl (fun _ => ?_) | refine zBf ?_ | refine zAp (fun _ => ?_))
  refine zIx i hil ?_
  repeat (first | refine zIxb 0 ?_ | refine zIxb 1 ?_ | refine zIxb 2 ?_ | refine zMin ?_ | refine zMax ?_ | refine gG ?_ | refine zN1 (fun hlen => ?_) | refine zN2 (fun hlen => ?_) | refine zAl (fun _ => ?_) | refine zBf ?_ | refine zAp (fun _ => ?_))
  refine zSlp 2 (i * 2) (Ln.ts ⟨la, lb⟩) hlt (by rw [len_flat Ln.ts_len]; omega) (by omega) ?_
  repeat (first | refine zIxb 0 ?_ | refine zIxb 1 ?_ | refine zIxb 2 ?_ | refine zMin ?_ | refine zMax ?_ | refine gG ?_ | refine zN1 (fun hlen => ?_) | refine zN2 (fun hlen => ?_) | refine zAl (fun _ => ?_) | refine zBf ?_ | refine zAp (fun _ => ?_))
  refine zCall (hasInt_af [la, lb] (k : Nat)) ?_
  rintro _ rfl
  rw [hv]
  repeat (first | refine zIxb 0 ?_ | refine zIxb 1 ?_ | refine zIxb 2 ?_ | refine zMin ?_ | refine zMax ?_ | refine gG ?_ | refine zN1 (fun hlen => ?_) | refine zN2 (fun hlen => ?_) | refine zAl (fun _ => ?_) | refine zBf ?_ | refine zAp (fun _ => ?_))
  first | refine zR ?_ | refine zQ ?_
  rw [hN]; rfl
end Go.Proofs.Ytaoldigfefmamaa
