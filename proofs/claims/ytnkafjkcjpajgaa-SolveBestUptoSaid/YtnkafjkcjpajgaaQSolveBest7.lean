/-
  Texts of this proof, part 7: Tka Ab44 Ab45 Tkb Tkb2 Vla Vma.
-/
import Derived.Test.YtnkafjkcjpajgaaQSolveBest6
import Derived.Lib.MinMax
import Derived.Shelf.SlIter.Nil
import Derived.Shelf.SortM.Plain
import Derived.Shelf.SortM.SortNone
import Derived.Sort.Walk0
namespace Go.Proofs.Ytnkafjkcjpajgaa
open Go.RowKit
structure Md where
  name : ByteArray
  version : Int
  uses : List Us
def Md.ts : Md → List T
  | ⟨f_name, f_version, f_uses⟩ => [.lit (.string f_name), .lit (.int .i64 f_version), Us.row f_uses]
theorem Md.ts_len (x : Md) : x.ts.length = 3 := by simp [Md.ts]
def Md.t (x : Md) : T := .agg x.ts
def Md.row (l : List Md) : T := .row l.length 3 (l.flatMap Md.ts)
theorem Md.at {l : List Md} {k : Nat} {x : Md} (h : l[k]? = some x) : ((l.flatMap Md.ts).drop (k * 3)).take 3 = x.ts := flat_at Md.ts 3 Md.ts_len h
def Md.size : Md → Nat
  | ⟨f_name, _, f_uses⟩ => f_name.size + Us.sizes f_uses + 1
def Md.sizes (l : List Md) : Nat := (l.map Md.size).sum
theorem Md.size_mem {x : Md} {l : List Md} (h : x ∈ l) : x.size ≤ Md.sizes l := sum_mem' Md.size h
theorem Md.len_sizes (l : List Md) : l.length ≤ Md.sizes l := len_sum' Md.size (fun x => by simp only [Md.size]; omega) l
instance : Inhabited Md := ⟨⟨⟨#[]⟩, 0, []⟩⟩
structure Pk where
  name : ByteArray
  version : Int
def Pk.ts : Pk → List T
  | ⟨f_name, f_version⟩ => [.lit (.string f_name), .lit (.int .i64 f_version)]
theorem Pk.ts_len (x : Pk) : x.ts.length = 2 := by simp [Pk.ts]
def Pk.t (x : Pk) : T := .agg x.ts
def Pk.row (l : List Pk) : T := .row l.length 2 (l.flatMap Pk.ts)
theorem Pk.at {l : List Pk} {k : Nat} {x : Pk} (h : l[k]? = some x) : ((l.flatMap Pk.ts).drop (k * 2)).take 2 = x.ts := flat_at Pk.ts 2 Pk.ts_len h
def Pk.size : Pk → Nat
  | ⟨f_name, _⟩ => f_name.size + 1
def Pk.sizes (l : List Pk) : Nat := (l.map Pk.size).sum
theorem Pk.size_mem {x : Pk} {l : List Pk} (h : x ∈ l) : x.size ≤ Pk.sizes l := sum_mem' Pk.size h
theorem Pk.len_sizes (l : List Pk) : l.length ≤ Pk.sizes l := len_sum' Pk.size (fun x => by simp only [Pk.size]; omega) l
instance : Inhabited Pk := ⟨⟨⟨#[]⟩, 0⟩⟩
noncomputable def useE (u : Us) : Int := if nameOk u.name.data.toList then (if u.low < 1 ∨ 9999 < u.high ∨ u.high < u.low then 1 else 0) else 11
noncomputable def usesE : List Us → Int
  | [] => 0
  | u :: r => if useE u = 0 then usesE r else useE u
noncomputable def wantsE (l : List Us) : Int := if 5 < l.length then 2 else usesE l
noncomputable def modE (m : Md) : Int := if nameOk m.name.data.toList then (if m.version < 1 ∨ 9999 < m.version then 1 else wantsE m.uses) else 11
def mordB (p m : Md) : Bool := strLt p.name m.name || (decide (p.name = m.name) && decide (p.version < m.version))
def ordE (p : Option Md) (m : Md) : Int := match p with | some q => if mordB q m then 0 else 21 | none => 0
noncomputable def modsE (p : Option Md) : List Md → Int
  | [] => 0
  | m :: r => if modE m = 0 then (if ordE p m = 0 then modsE (some m) r else ordE p m) else modE m
noncomputable def checkE (l : List Md) : Int := if 30 < l.length then 2 else modsE none l
def prevAt {α : Type} (l : List α) (k : Nat) : Option α := if k = 0 then none else l[k - 1]?
theorem prevAt_succ {α : Type} {l : List α} {k : Nat} {a : α} (h : l[k]? = some a) : prevAt l (k + 1) = some a := by simp [prevAt, h]
theorem usesE_step {l : List Us} {k : Nat} {u : Us} (h : l[k]? = some u) : usesE (l.drop k) = if useE u = 0 then usesE (l.drop (k + 1)) else useE u := by
  obtain ⟨h1, rfl⟩ := List.getElem?_eq_some_iff.1 h
  rw [List.drop_eq_getElem_cons h1, usesE]
theorem modsE_step {l : List Md} {k : Nat} {m : Md} (h : l[k]? = some m) : modsE (prevAt l k) (l.drop k) = if modE m = 0 then (if ordE (prevAt l k) m = 0 then modsE (prevAt l (k + 1)) (l.drop (k + 1)) else ordE (prevAt l k) m) else modE m := by
  rw [prevAt_succ h]
  obtain ⟨h1, rfl⟩ := List.getElem?_eq_some_iff.1 h
  rw [List.drop_eq_getElem_cons h1, modsE]
theorem usesE_all : ∀ {l : List Us}, usesE l = 0 → ∀ u ∈ l, useE u = 0
  | [], _, _, h => by simp at h
  | u :: r, h, v, hv => by
    rw [usesE] at h
    by_cases h0 : useE u = 0
    · rw [if_pos h0] at h
      rcases List.mem_cons.1 hv with rfl | hv
      · exact h0
      · exact usesE_all h v hv
    · rw [if_neg h0] at h; exact absurd h h0
theorem wantsE_ok {l : List Us} (h : wantsE l = 0) : l.length ≤ 5 ∧ ∀ u ∈ l, useE u = 0 := by
  unfold wantsE at h
  by_cases h5 : 5 < l.length
  · rw [if_pos h5] at h; cases h
  · rw [if_neg h5] at h; exact ⟨by omega, usesE_all h⟩
theorem useE_name {u : Us} (h : useE u = 0) : u.name ≠ ⟨#[]⟩ := by
  rintro e
  unfold useE at h
  rw [e] at h
  rw [show nameOk (ByteArray.mk #[]).data.toList = false from nameOk_nil] at h
  simp at h
theorem modE_ok {m : Md} (h : modE m = 0) : (1 ≤ m.version ∧ m.version ≤ 9999) ∧ wantsE m.uses = 0 := by
  unfold modE at h
  split at h
  · split at h
    · cases h
    · exact ⟨by omega, h⟩
  · cases h
/-- each register entry comes behind all before it -/
theorem strLt_irrefl (s : ByteArray) : strLt s s = false := by
  unfold strLt
  generalize s.toList = l
  induction l with
  | nil => rfl
  | cons a l ih => simp [Op.bytesLess, ih]
theorem modsE_all : ∀ {l : List Md} {p : Option Md}, modsE p l = 0 → (∀ m ∈ l, modE m = 0) ∧ ∀ i (h : i + 1 < l.length), mordB l[i] l[i + 1] = true
  | [], _, _ => ⟨fun _ h => by simp at h, fun _ h => by simp at h⟩
  | m :: r, p, h => by
    rw [modsE] at h
    by_cases h0 : modE m = 0
    · rw [if_pos h0] at h
      have hr : modsE (some m) r = 0 := by
        split at h
        · exact h
        · rename_i hx; exact absurd h hx
      obtain ⟨h1, h2⟩ := modsE_all hr
      refine ⟨fun x hx => ?_, fun i hi => ?_⟩
      · rcases List.mem_cons.1 hx with rfl | hx
        · exact h0
        · exact h1 x hx
      · cases i with
        | succ i => exact h2 i (by simpa using hi)
        | zero =>
          cases r with
          | nil => simp at hi
          | cons x r =>
            rw [modsE] at hr
            split at hr
            · split at hr
              · rename_i _ hx
                unfold ordE at hx
                simp only at hx
                split at hx
                · assumption
                · cases hx
              · rename_i hx; exact absurd hr hx
            · rename_i hx; exact absurd hr hx
    · rw [if_neg h0] at h; exact absurd h h0
theorem lt_eq (a b : ByteArray) : strLt a b = decide (a.toList < b.toList) := bytesLess_eq _ _
theorem ba_ext {a b : ByteArray} (h : a.toList = b.toList) : a = b := by
  have h2 : a.data.toList = b.data.toList := by
    rwa [str_toList, str_toList] at h
  cases a; cases b
  simp only [ByteArray.mk.injEq]
  exact Array.ext' h2
theorem strLt_trans {a b c : ByteArray} (h : strLt a b = true) (h' : strLt b c = true) : strLt a c = true := by
  rw [lt_eq, decide_eq_true_eq] at h h' ⊢
  exact List.lt_trans h h'
theorem mordB_trans {a b c : Md} (h : mordB a b = true) (h' : mordB b c = true) : mordB a c = true := by
  simp only [mordB, Bool.or_eq_true, Bool.and_eq_true, decide_eq_true_eq] at h h' ⊢
  rcases h with h | ⟨h1, h2⟩
  · rcases h' with h' | ⟨h3, _⟩
    · exact .inl (strLt_trans h h')
    · rw [h3] at h; exact .inl h
  · rcases h' with h' | ⟨h3, h4⟩
    · rw [← h1] at h'; exact .inl h'
    · exact .inr ⟨h1.trans h3, by omega⟩
theorem mordB_irrefl {a b : Md} (h : mordB a b = true) : ¬ (b.name = a.name ∧ b.version = a.version) := by
  rintro ⟨h1, h2⟩
  simp only [mordB, Bool.or_eq_true, Bool.and_eq_true, decide_eq_true_eq, h1, strLt_irrefl] at h
  rcases h with h | ⟨_, h⟩
  · cases h
  · omega
theorem ord_pair {l : List Md} (h : ∀ i (h : i + 1 < l.length), mordB l[i] l[i + 1] = true) : l.Pairwise (fun a b => mordB a b = true) := by
  induction l with
  | nil => exact .nil
  | cons a l ih =>
    have hl : ∀ i (h : i + 1 < l.length), mordB l[i] l[i + 1] = true := fun i hi => h (i + 1) (by simpa using hi)
    have hp := ih hl
    refine .cons (fun b hb => ?_) hp
    cases l with
    | nil => simp at hb
    | cons x l =>
      have h0 : mordB a x = true := h 0 (by simp)
      rcases List.mem_cons.1 hb with rfl | hb
      · exact h0
      · exact mordB_trans h0 ((List.pairwise_cons.1 hp).1 b hb)
def hitB (nm : ByteArray) (v : Int) (m : Md) : Bool := decide (m.name = nm) && decide (m.version = v)
def pv (ps : List Pk) (nm : ByteArray) : Option Int := (ps.find? fun p => decide (p.name = nm)).map Pk.version
def usOf (l : List Md) (nm : ByteArray) (v : Int) : Option (List Us) := (l.find? (hitB nm v)).map Md.uses
def okU (l : List Md) (ps : List Pk) (u : Us) : Option (List Us) :=
  match pv ps u.name with
  | none => none
  | some v => if v < u.low ∨ u.high < v then none else usOf l u.name v
inductive Runs (l : List Md) (ps : List Pk) : List Us → List ByteArray → Option (List ByteArray) → Prop where
  | done (R : List ByteArray) : Runs l ps [] R (some R)
  | bad {u : Us} {q : List Us} {R : List ByteArray} (h : okU l ps u = none) : Runs l ps (u :: q) R none
  | old {u : Us} {q : List Us} {R : List ByteArray} {r : Option (List ByteArray)} {us : List Us} (h : okU l ps u = some us) (hm : u.name ∈ R) (hr : Runs l ps q R r) : Runs l ps (u :: q) R r
  | new {u : Us} {q : List Us} {R : List ByteArray} {r : Option (List ByteArray)} {us : List Us} (h : okU l ps u = some us) (hm : u.name ∉ R) (hr : Runs l ps (q ++ us) (R ++ [u.name]) r) : Runs l ps (u :: q) R r
theorem Runs.det {l : List Md} {ps : List Pk} {q : List Us} {R : List ByteArray} {r r' : Option (List ByteArray)} (h : Runs l ps q R r) (h' : Runs l ps q R r') : r = r' := by
  induction h with
  | done R => cases h'; rfl
  | bad h =>
    cases h' with
    | bad _ => rfl
    | old h2 _ _ => rw [h] at h2; cases h2
    | new h2 _ _ => rw [h] at h2; cases h2
  | old h hm hr ih =>
    cases h' with
    | bad h2 => rw [h] at h2; cases h2
    | old h2 _ h3 => exact ih h3
    | new _ h2 _ => exact absurd hm h2
  | new h hm hr ih =>
    cases h' with
    | bad h2 => rw [h] at h2; cases h2
    | old _ h2 _ => exact absurd h2 hm
    | new h2 _ h3 =>
      rw [h] at h2
      injection h2 with h2
      subst h2
      exact ih h3
theorem pv_mem {ps : List Pk} {nm : ByteArray} {v : Int} (h : pv ps nm = some v) : nm ∈ ps.map Pk.name := by
  unfold pv at h
  cases hf : ps.find? (fun p => decide (p.name = nm)) with
  | none => rw [hf] at h; cases h
  | some p =>
    have h1 := List.find?_some hf
    have h2 := List.mem_of_find?_eq_some hf
    simp at h1
    exact List.mem_map.2 ⟨p, h2, h1⟩
theorem usOf_mem {l : List Md} {nm : ByteArray} {v : Int} {us : List Us} (h : usOf l nm v = some us) : ∃ m ∈ l, m.name = nm ∧ m.version = v ∧ m.uses = us := by
  unfold usOf at h
  cases hf : l.find? (hitB nm v) with
  | none => rw [hf] at h; cases h
  | some m =>
    rw [hf] at h
    have h1 := List.find?_some hf
    have h2 := List.mem_of_find?_eq_some hf
    simp [hitB] at h1
    exact ⟨m, h2, h1.1, h1.2, by simpa using h⟩
theorem okU_some {l : List Md} {ps : List Pk} {u : Us} {us : List Us} (h : okU l ps u = some us) : ∃ v, pv ps u.name = some v ∧ ¬ (v < u.low ∨ u.high < v) ∧ usOf l u.name v = some us := by
  unfold okU at h
  cases hp : pv ps u.name with
  | none => rw [hp] at h; cases h
  | some v =>
    rw [hp] at h
    simp only at h
    split at h
    · cases h
    · exact ⟨v, rfl, by assumption, h⟩
/-- names met: each once, of the selection, none empty -/
def Met (ps : List Pk) (R : List ByteArray) : Prop := R.Nodup ∧ ∀ nm ∈ R, nm ∈ ps.map Pk.name ∧ nm ≠ ⟨#[]⟩
theorem Runs.met {l : List Md} {ps : List Pk} (hl : ∀ m ∈ l, modE m = 0) {q : List Us} {R : List ByteArray} {r : Option (List ByteArray)} (h : Runs l ps q R r) (hq : ∀ u ∈ q, useE u = 0) (hR : Met ps R) : ∀ R', r = some R' → Met ps R' := by
  induction h with
  | done R => rintro R' e; injection e with e; subst e; exact hR
  | bad _ => rintro _ e; cases e
  | old h hm hr ih => exact ih (fun u hu => hq u (List.mem_cons_of_mem _ hu)) hR
  | @new u q R r us h hm hr ih =>
    obtain ⟨v, h1, _, h3⟩ := okU_some h
    obtain ⟨m, h4, _, _, h5⟩ := usOf_mem h3
    refine ih (fun x hx => ?_) ⟨?_, fun nm hn => ?_⟩
    · rcases List.mem_append.1 hx with hx | hx
      · exact hq x (List.mem_cons_of_mem _ hx)
      · rw [← h5] at hx
        exact (wantsE_ok (modE_ok (hl m h4)).2).2 x hx
    · rw [List.nodup_append]
      refine ⟨hR.1, by simp, fun a ha b hb => ?_⟩
      rw [List.mem_singleton] at hb
      rintro rfl
      rw [hb] at ha
      exact hm ha
    · rcases List.mem_append.1 hn with hn | hn
      · exact hR.2 nm hn
      · rw [List.mem_singleton] at hn
        subst hn
        exact ⟨pv_mem h1, useE_name (hq u (by simp))⟩
def leB (a b : ByteArray) : Bool := strLt a b || decide (a = b)
def ascR : ByteArray → List Pk → Bool
  | _, [] => true
  | last, p :: r => !leB p.name last && ascR p.name r
theorem leB_false {a b : ByteArray} (h : leB a b = false) : strLt b a = true := by
  simp only [leB, Bool.or_eq_false_iff, decide_eq_false_iff_not] at h
  rw [lt_eq, decide_eq_false_iff_not] at h
  rw [lt_eq, decide_eq_true_eq]
  have h2 : b.toList ≤ a.toList := Std.not_lt.1 h.1
  rcases Std.le_iff_lt_or_eq.1 h2 with h1 | h1
  · exact h1
  · exact absurd (ba_ext h1.symm) h.2
/-- modules whose names are not met yet -/
noncomputable def left (l : List Md) (R : List ByteArray) : Nat := by classical exact (l.filter fun m => decide (m.name ∉ R)).length
def runOut (ps : List Pk) (r : Option (List ByteArray)) : Bool := match r with | none => false | some R => decide (R.length = ps.length)
/-- what both answer -/
def RightIs (l : List Md) (root : List Us) (ps : List Pk) (b : Bool) : Prop :=
  ((checkE l ≠ 0 ∨ wantsE root ≠ 0 ∨ ascR ⟨#[]⟩ ps = false) ∧ b = false) ∨
  (checkE l = 0 ∧ wantsE root = 0 ∧ ascR ⟨#[]⟩ ps = true ∧ ∃ r, Runs l ps root [] r ∧ b = runOut ps r)
theorem RightIs.det {l : List Md} {root : List Us} {ps : List Pk} {b b' : Bool} (h : RightIs l root ps b) (h' : RightIs l root ps b') : b = b' := by
  rcases h with ⟨h1, rfl⟩ | ⟨h1, h2, h3, r, h4, rfl⟩
  · rcases h' with ⟨_, rfl⟩ | ⟨g1, g2, g3, _⟩
    · rfl
    · rcases h1 with h1 | h1 | h1
      · exact absurd g1 h1
      · exact absurd g2 h1
      · rw [g3] at h1; cases h1
  · rcases h' with ⟨g1, rfl⟩ | ⟨g1, g2, g3, r', h5, rfl⟩
    · rcases g1 with g1 | g1 | g1
      · exact absurd h1 g1
      · exact absurd h2 g1
      · rw [h3] at g1; cases g1
    · rw [h4.det h5]
end Go.Proofs.Ytnkafjkcjpajgaa
namespace Go.Proofs.Ytnkafjkcjpajgaa
open Go.RowKit
def bl (s : ByteArray) : List UInt8 := s.data.toList
def ofB (l : List UInt8) : ByteArray := ⟨l.toArray⟩
theorem ofB_bl (s : ByteArray) : ofB (bl s) = s := by cases s; simp [ofB, bl]
theorem bl_inj {a b : ByteArray} (h : bl a = bl b) : a = b := by rw [← ofB_bl a, h, ofB_bl]
theorem strLt_bl (a b : ByteArray) : strLt a b = decide (bl a < bl b) := by rw [lt_eq, str_toList, str_toList]; rfl
def leL (x y : List UInt8) : Bool := decide (x ≤ y)
theorem leL_trans (a b c : List UInt8) (h : leL a b = true) (h' : leL b c = true) : leL a c = true := by
  unfold leL at *
  rw [decide_eq_true_eq] at *
  exact List.le_trans h h'
theorem leL_total (a b : List UInt8) : (leL a b || leL b a) = true := by
  unfold leL
  rw [Bool.or_eq_true, decide_eq_true_eq, decide_eq_true_eq]
  exact List.le_total a b
theorem leL_anti {a b : List UInt8} (h : leL a b = true) (h' : leL b a = true) : a = b := by
  unfold leL at *
  rw [decide_eq_true_eq] at *
  exact List.le_antisymm h h'
/-- texts, sorted -/
def sortB (l : List ByteArray) : List ByteArray := ((l.map bl).mergeSort leL).map ofB
theorem sortB_perm (l : List ByteArray) : (sortB l).Perm l := by
  unfold sortB
  have h := (List.mergeSort_perm (l.map bl) leL).map ofB
  rw [List.map_map, show (ofB ∘ bl) = id from funext ofB_bl, List.map_id] at h
  exact h
theorem sortB_len (l : List ByteArray) : (sortB l).length = l.length := (sortB_perm l).length_eq
theorem sort_eq {a b : List (List UInt8)} (h : a.Perm b) : a.mergeSort leL = b.mergeSort leL := by
  refine List.Perm.eq_of_pairwise (le := fun x y => leL x y = true) (fun x y _ _ h1 h2 => leL_anti h1 h2) (List.pairwise_mergeSort leL_trans leL_total a) (List.pairwise_mergeSort leL_trans leL_total b) ?_
  exact (List.mergeSort_perm a leL).trans (h.trans (List.mergeSort_perm b leL).symm)
theorem sortB_eq {a b : List ByteArray} (h : a.Perm b) : sortB a = sortB b := by
  unfold sortB
  rw [sort_eq (h.map bl)]
theorem rts_strs {M : Mm} : ∀ {l : List ByteArray} {xs : List Value}, RTs M (l.flatMap strTs) xs → xs = l.map Value.string
  | [], _, h => by simpa [RTs] using h
  | s :: l, xs, h => by
    simp only [List.flatMap_cons, strTs, List.cons_append, List.nil_append, RTs, RT] at h
    obtain ⟨x, r1, rfl, rfl, h⟩ := h
    rw [rts_strs h]
    rfl
theorem strs_rts {M : Mm} : ∀ (l : List ByteArray), RTs M (l.flatMap strTs) (l.map Value.string)
  | [] => by simp [RTs]
  | s :: l => by
    simp only [List.flatMap_cons, strTs, List.cons_append, List.nil_append, List.map_cons, RTs, RT]
    exact ⟨_, _, rfl, rfl, strs_rts l⟩
theorem strs_one (l : List ByteArray) : OneAll (l.map Value.string) := fun x hx => by
  obtain ⟨s, _, rfl⟩ := List.mem_map.1 hx
  rfl
theorem enc_ofB (l : List (List UInt8)) : l.map Go.Proofs.encStr = (l.map ofB).map Value.string := by
  rw [List.map_map]
  rfl
theorem map_ofB (l : List ByteArray) : (l.map bl).map ofB = l := by
  rw [List.map_map, show (ofB ∘ bl) = id from funext ofB_bl, List.map_id]
theorem enc_bl (l : List ByteArray) : (l.map bl).map Go.Proofs.encStr = l.map Value.string := by
  rw [enc_ofB, map_ofB]
theorem put_heap {α : Type} [Inhabited α] (enc : α → Value) (w : World) (n blk off : Nat) (d : Array α) (os : Array Obj) (hb : blk < w.heap.size) :
    (∀ b, b < w.heap.size → b ≠ blk → (Sort.grow (Sort.putRow enc (Sort.ahead w n) blk off d) os).heap[b]? = w.heap[b]?) ∧
    (∀ cur e fr, w.heap[blk]? = some (.cells cur e fr) → (Sort.grow (Sort.putRow enc (Sort.ahead w n) blk off d) os).heap[blk]? = some (.cells (Sort.putCells enc off d cur) e fr)) ∧ w.heap.size ≤ (Sort.grow (Sort.putRow enc (Sort.ahead w n) blk off d) os).heap.size := by
  have hh : (Sort.grow (Sort.putRow enc (Sort.ahead w n) blk off d) os).heap = w.heap.modify blk (Sort.onCells (Sort.putCells enc off d)) ++ os := rfl
  rw [hh]
  refine ⟨fun b h1 h2 => ?_, fun cur e fr h => ?_, by rw [Array.size_append, Array.size_modify]; omega⟩
  · rw [Array.getElem?_append_left (by rw [Array.size_modify]; exact h1), Array.getElem?_modify, if_neg (Ne.symm h2)]
  · rw [Array.getElem?_append_left (by rw [Array.size_modify]; exact hb), Array.getElem?_modify, if_pos rfl, h]
    rfl
theorem putEnc_list {α : Type} [Inhabited α] (enc : α → Value) (d : Array α) (cur : Array Value) (off : Nat) (h : off + d.size ≤ cur.size) : ((Sort.putCells enc off d cur).toList.drop off).take d.size = d.toList.map enc := by
  apply List.ext_getElem?
  intro t
  rw [List.getElem?_take]
  by_cases h1 : t < d.size
  · rw [if_pos h1, List.getElem?_drop, Array.getElem?_toList, List.getElem?_map, Array.getElem?_toList, Array.getElem?_eq_getElem h1]
    have h2 : off + t < (Sort.putCells enc off d cur).size := by simp only [Sort.putCells, Array.size_mapIdx]; omega
    rw [Array.getElem?_eq_getElem h2]
    simp only [Sort.putCells, Array.getElem_mapIdx]
    rw [if_pos ⟨by omega, by omega⟩, show off + t - off = t by omega, getElem!_pos d t h1]
    rfl
  · rw [if_neg h1, List.getElem?_map, Array.getElem?_toList, Array.getElem?_eq_none (by omega)]
    rfl
/-- a step that writes the cells of the one block, and makes others -/
theorem sorted_heap {F : Frm} {M : Mm} {w w' : World} {v v' : Value} {e : TypeId} {sz n n' : Nat} {ts ts' : List T} {g0 : Nat} (hM : HeapOk F M [.row v e sz n ts] w) (hv : v.ownBlock = some g0) (hv' : v'.ownBlock = some g0)
    (hos : w'.os = w.os) (htape : w'.tape = w.tape) (hout : w'.output = w.output) (hsz : w.heap.size ≤ w'.heap.size) (hother : ∀ b, b < w.heap.size → b ≠ g0 → w'.heap[b]? = w.heap[b]?) (hx : BlkOk M w' (.row v' e sz n' ts')) : HeapOk F M [.row v' e sz n' ts'] w' := by
  refine hM.step 0 hos htape hout hsz (fun b hb hne => hother b hb fun h => ?_) (Ext.refl _ _) (fun p v h1 h2 => by rw [h2] at h1; cases h1) (fun j hj => ?_) (fun x' hx' => ?_)
  · exact hne _ rfl (by rw [h]; exact hv)
  · cases j with
    | zero => exact absurd rfl hj
    | succ j => rfl
  · obtain rfl : _ = x' := by simpa using hx'
    exact ⟨hx, fun b hb => .inl ⟨_, rfl, hv.trans (hv'.symm.trans hb)⟩⟩
set_option maxHeartbeats 1000000 in
theorem sortS_ag {P : Program} {ρ : Shelf.Ren} (L : SlLaysM.n6 P ρ) (hE : Enters P (ρ.f 6)) (l : List ByteArray) (hlen : l.length ≤ 4611686018427387) (v : Value) (e : TypeId) :
    AG P (ρ.f 6) [.own 0 v] [.row v e 1 l.length (l.flatMap strTs)] (fun r hs => r = .tup [] ∧ hs = [.row v e 1 (sortB l).length ((sortB l).flatMap strTs)]) := by
  refine ⟨hE, fun F M w vs hM hv => ?_⟩
  simp only [RAs, RA] at hv
  obtain ⟨u, r1, rfl, ⟨rfl, -⟩, rfl⟩ := hv
  obtain ⟨xs, ho, hx, h1, h2⟩ := hM.at_ 0 _ rfl
  obtain rfl := rts_strs hx
  have hsl := sortB_len l
  rcases ho.2 with ⟨rfl, h0⟩ | ⟨g0, off, cap, cur, rfl, hg, hnc, hcm, hcs, htk⟩
  · obtain rfl : l = [] := List.length_eq_zero_iff.1 h0
    refine (AnyM.slices_Sort_string_none L none 0 w).mono fun e' w' ⟨he, hw⟩ => ?_
    subst hw
    exact ⟨_, .tup [], _, M, he, ⟨rfl, rfl⟩, Ext.refl _ _, (by rw [show sortB [] = [] by simp [sortB]]; exact hM), by simp only [RA, RAs]; exact ⟨[], rfl, rfl⟩⟩
  · have hblk : g0 < w.heap.size := (Array.getElem?_eq_some_iff.1 hg).1
    have hl2 : (l.map bl).length = l.length := List.length_map _
    have hH : Sort.Holds Go.Proofs.encStr w g0 off (l.map bl).toArray := by
      intro j hj
      have hj1 : j < l.length := by simpa using hj
      have hj2 : (l.map Value.string)[j]? = some (Go.Proofs.encStr (l.map bl).toArray[j]!) := by
        rw [← enc_bl, List.getElem?_map, getElem!_pos (l.map bl).toArray j (by simpa using hj1)]
        simp [hj1]
      refine ⟨?_, ?_⟩
      · have := ho.cells j _ hj2
        rwa [offs_add] at this
      · simp only [World.frozen?, hg]
        simp
    have hcon := AnyM.slices_Sort_string L g0 off cap (l.map bl) w hH hblk (by rw [hl2]; omega)
    rw [hl2] at hcon
    refine hcon.mono fun e' w' ⟨he, n, os, hw⟩ => ?_
    have hfz : (((l.map bl).mergeSort leL).toArray).size = l.length := by simp [(List.mergeSort_perm (l.map bl) leL).length_eq]
    obtain ⟨hW1, hW2, hW3⟩ := put_heap Go.Proofs.encStr w n g0 off ((l.map bl).mergeSort leL).toArray os hblk
    have hW4 := hW2 cur e (0, 0) hg
    have hww : w' = Sort.grow (Sort.putRow Go.Proofs.encStr (Sort.ahead w n) g0 off ((l.map bl).mergeSort leL).toArray) os := hw
    rw [← hww] at hW1 hW3 hW4
    have hos : w'.os = w.os ∧ w'.tape = w.tape ∧ w'.output = w.output := by rw [hww]; exact ⟨rfl, rfl, rfl⟩
    clear hw hww hcon hW2 hH
    have hcz : off + (((l.map bl).mergeSort leL).toArray).size ≤ cur.size := by
      rw [hfz]
      omega
    have hown : OwnsO w' e 1 (.slice (some ⟨g0, off, none⟩) l.length cap) l.length ((sortB l).map Value.string) := by
      refine ⟨by rw [List.length_map, hsl, Nat.mul_one], .inr ⟨g0, off, cap, _, rfl, hW4, hnc, hcm, by simp only [Sort.putCells, Array.size_mapIdx]; exact hcs, ?_⟩⟩
      have := putEnc_list Go.Proofs.encStr ((l.map bl).mergeSort leL).toArray cur off hcz
      rw [hfz, List.toList_toArray, enc_ofB] at this
      rw [Nat.mul_one]
      exact this
    refine ⟨_, .tup [], _, M, he, ⟨rfl, rfl⟩, Ext.refl _ _, ?_, by simp only [RA, RAs]; exact ⟨[], rfl, rfl⟩⟩
    rw [hsl]
    exact sorted_heap hM rfl rfl hos.1 hos.2.1 hos.2.2 hW3 hW1 ⟨_, hown, strs_rts _, strs_one _, by omega⟩
set_option maxHeartbeats 1000000 in
theorem sortedK_ag {P : Program} {ρk ρs ρm : Shelf.Ren} (LK : SlLaysZ.n10 P ρk) (LS : SlLaysZ.n6 P ρs) (LM : SlLaysM.n6 P ρm) (h9 : ρs.f 9 = ρm.f 6) (h26 : ρs.t 26 = ρk.t 26) (hk : P.underlying (ρk.t 26) = some .string) (hE : Enters P (ρs.f 6))
    (e9 : ∀ args w, (callFunc (ρs.f 9) args).run P w = .ok (.enter (ρs.f 9) args) w) (eg : ∀ args w, (callFunc (ρk.f 10) args).run P w = .ok (.enter (ρk.f 10) args) w) (l : List (ByteArray × T)) (hn : (l.map (·.1)).Nodup) (hsz : ∀ p ∈ l, p.1.size ≤ maxLen) (hlen : l.length ≤ 1048576) (bb b : Nat) (mt : TypeId) (q1 q2 : Nat) :
    AG P (ρs.f 6) [.fn (.func (ρk.f 10)) [.ptr q1 bb 0]] [.box bb mt [.own q2 (.map (some b))], .mp b (mkeys Value.string l)]
      (fun r hs => ∃ v, r = .own 2 v ∧ hs = [.box bb mt [.own q2 (.map (some b))], .mp b (mkeys Value.string l), .row v (ρs.t 26) 1 (sortB (l.map (·.1))).length ((sortB (l.map (·.1))).flatMap strTs)]) := by
  refine ⟨hE, fun F M w vs hM hv => ?_⟩
  simp only [RAs, RA] at hv
  obtain ⟨u, r1, rfl, ⟨xs, rfl, ⟨x, r2, rfl, rfl, rfl⟩⟩, rfl⟩ := hv
  obtain ⟨cs, hbox, hcs, hone⟩ := hM.at_ 0 _ rfl
  simp only [RAs, RA] at hcs
  obtain ⟨x, r2, rfl, ⟨rfl, -⟩, rfl⟩ := hcs
  obtain ⟨es, clock, hmap, hkeys, hvals, hstm, -⟩ := hM.at_ 1 _ rfl
  have hkeys' : es.map (·.key) = l.map (fun p => Value.string p.1) := by rw [hkeys]; simp [mkeys]
  have hesl : es.length = l.length := by simpa using congrArg List.length hkeys'
  let R : Value → Option (DataW Unit × List MemPlace) := fun _ => some (.lit (.bool true), [])
  have hkey : ∀ y ∈ es, ∃ s : ByteArray, y.key = .string s ∧ s.size ≤ maxLen := fun y hy => by
    have : y.key ∈ l.map (fun p => Value.string p.1) := by rw [← hkeys']; exact List.mem_map.2 ⟨y, hy, rfl⟩
    obtain ⟨p, hp, he⟩ := List.mem_map.1 this
    exact ⟨p.1, he.symm, hsz p hp⟩
  have hkk : ∀ s : ByteArray, s.size ≤ maxLen → keyOf P (ρk.t 26) (.string s) = some (Lit.string s.data.toList) := fun s hs => by
    simp [keyOf, hk, mapKey, hs]
  have hFit : WideElems.Fit P (ρk.t 26) R es.toArray clock := by
    refine ⟨by simp only [List.size_toArray]; unfold maxLen; omega, ?_, fun y hy => ?_⟩
    · rw [MapKept.stamped_iff]
      refine ⟨fun y hy => hstm.2 y hy, hstm.1, ?_⟩
      have : (es.map (·.key)).Pairwise (· ≠ ·) := by
        rw [hkeys', List.pairwise_map]
        have := List.pairwise_map.1 hn
        exact this.imp fun hne e => hne (by injection e)
      exact List.pairwise_map.1 this
    · obtain ⟨s, h1, h2⟩ := hkey y hy
      exact ⟨_, by simp [WideElems.rd, h1, hkk s h2, R]; rfl⟩
  have hrg : ∀ y ∈ es, WideElems.rg P (ρk.t 26) R y = (Lit.string (match y.key with | .string s => bl s | _ => []), DataW.lit (.bool true)) := fun y hy => by
    obtain ⟨s, h1, h2⟩ := hkey y hy
    have : WideElems.rd P (ρk.t 26) R y = some (Lit.string (bl s), DataW.lit (.bool true)) := by simp [WideElems.rd, h1, hkk s h2, R]; rfl
    rw [WideElems.rg_of this, h1]
  have hown : w.ownsMap P (ρk.t 26) R b l.length (.map ((es.map (WideElems.rg P (ρk.t 26) R)).foldr DataW.insert [])) := ⟨es.toArray, clock, hmap, hFit, by simp [hesl], rfl⟩
  have hsize : Maps.size (DataW.map ((es.map (WideElems.rg P (ρk.t 26) R)).foldr DataW.insert [])) = l.length := by simp [Maps.size, length_sorted, hesl]
  have hkl : strKeys (DataW.map ((es.map (WideElems.rg P (ρk.t 26) R)).foldr DataW.insert [])) = ((es.map (WideElems.rg P (ρk.t 26) R)).foldr DataW.insert []).map fun p => strOf p.1 := rfl
  have hperm : (strKeys (DataW.map ((es.map (WideElems.rg P (ρk.t 26) R)).foldr DataW.insert []))).Perm ((l.map (·.1)).map bl) := by
    rw [hkl]
    refine ((WideShapes.sorted_perm _).map _).trans (List.Perm.of_eq ?_)
    rw [List.map_map, List.map_map]
    have h1 : es.map ((fun p : Lit × DataW Unit => strOf p.1) ∘ WideElems.rg P (ρk.t 26) R) = es.map (fun y => match y.key with | .string s => bl s | _ => []) := List.map_congr_left fun y hy => by
      show strOf (WideElems.rg P (ρk.t 26) R y).1 = _
      rw [hrg y hy]
      rfl
    have h2 : es.map (fun y => match y.key with | .string s => bl s | _ => []) = (es.map (·.key)).map (fun k => match k with | .string s => bl s | _ => []) := by rw [List.map_map]; rfl
    rw [h1, h2, hkeys', List.map_map]
    rfl
  generalize DataW.map ((es.map (WideElems.rg P (ρk.t 26) R)).foldr DataW.insert []) = D0 at *
  have hseq := AnyZ.keys_gives LK Fence.wide 2 trivial rfl (by omega) bb b l.length D0 w (Array.getElem?_eq_some_iff.1 hbox).1 (by simp [World.cell?, hbox]) hown
  have hsorts : AnyZ.SortsIn P ρs Fence.wide 4 := ⟨fun blk off cap ss W hH hblk hsz => callsIn_wide.2 (by rw [h9]; exact AnyM.slices_Sort_string LM blk off cap ss W hH hblk hsz),
    fun p cap W => callsIn_wide.2 (by rw [h9]; exact AnyM.slices_Sort_string_none LM p cap W)⟩
  have hcon := AnyZ.sorted_in LS Fence.wide 5 trivial trivial trivial trivial rfl (by omega) hsorts e9 (ρk.f 10) #[.pointer (some ⟨bb, 0, none⟩)] trivial eg _ (Maps.size D0) (by rw [hsize]; unfold maxLen; omega) (by rw [hsize]; omega) w hseq
  refine (callsIn_wide.1 hcon).mono fun e w' ⟨v, ss, he, hS, hrow, _, hb⟩ => ?_
  have hss : (ss.mergeSort (fun x y => decide (x ≤ y))).map Go.Proofs.encStr = (sortB (l.map (·.1))).map Value.string := by
    have h1 : ss.mergeSort leL = ((l.map (·.1)).map bl).mergeSort leL := sort_eq (hS.trans hperm)
    show (ss.mergeSort leL).map Go.Proofs.encStr = _
    rw [h1, enc_ofB]
    rfl
  have hsl : ss.length = (sortB (l.map (·.1))).length := by rw [sortB_len, (hS.trans hperm).length_eq, List.length_map]
  rw [hss, hsl] at hrow
  refine ⟨v, .own 2 v, _, M, he, ⟨v, rfl, rfl⟩, Ext.refl _ _, ?_, by
    simp only [RA]
    refine ⟨trivial, ?_⟩
    rcases hrow.2 with ⟨rfl, _⟩ | ⟨g, cap, cur, rfl, _⟩ <;> rfl⟩
  refine push_row (x := .row v (ρs.t 26) 1 (sortB (l.map (·.1))).length ((sortB (l.map (·.1))).flatMap strTs)) hM hb.os hb.tape hb.output hb.size hb.block (Ext.refl _ _) (fun p v h1 h2 => by rw [h2] at h1; cases h1) ⟨_, ownsO_of hrow, strs_rts _, strs_one _, by omega⟩ (fun q hq => ?_)
  rcases hrow.2 with ⟨rfl, _⟩ | ⟨g, cap, cur, rfl, hbase, _⟩
  · cases hq
  · obtain rfl : g = q := by simpa [Blk.blk, Value.ownBlock] using hq
    exact ⟨hbase, fun p hp => mem_fresh hM.mem (by omega)⟩
end Go.Proofs.Ytnkafjkcjpajgaa
namespace Go.Proofs.Ytnkafjkcjpajgaa
open Go.RowKit
section
variable {α β : Type}
def mapT (f : β → T) (l : List (α × β)) : List (α × T) := l.map fun p => (p.1, f p.2)
theorem mapT_len (f : β → T) (l : List (α × β)) : (mapT f l).length = l.length := List.length_map _
theorem mapT_keys (f : β → T) (l : List (α × β)) : (mapT f l).map (·.1) = l.map (·.1) := by simp [mapT, Function.comp_def]
end
section
variable {α β : Type} [DecidableEq α]
def gget (k : α) : List (α × β) → Option β
  | [] => none
  | (k', b) :: l => if k = k' then some b else gget k l
def gput (k : α) (b : β) : List (α × β) → List (α × β)
  | [] => [(k, b)]
  | (k', b') :: l => if k = k' then (k, b) :: l else (k', b') :: gput k b l
def gdel (k : α) : List (α × β) → List (α × β)
  | [] => []
  | (k', b) :: l => if k = k' then l else (k', b) :: gdel k l
theorem mget_T (f : β → T) (k : α) : ∀ l : List (α × β), mget k (mapT f l) = (gget k l).map f
  | [] => rfl
  | (k', b) :: l => by
    show (if k = k' then some (f b) else mget k (mapT f l)) = _
    rw [mget_T f k l, gget]
    split <;> rfl
theorem mput_T (f : β → T) (k : α) (b : β) : ∀ l : List (α × β), mput k (f b) (mapT f l) = mapT f (gput k b l)
  | [] => rfl
  | (k', b') :: l => by
    show (if k = k' then (k, f b) :: mapT f l else (k', f b') :: mput k (f b) (mapT f l)) = _
    rw [mput_T f k b l, gput]
    split <;> rfl
theorem mdel_T (f : β → T) (k : α) : ∀ l : List (α × β), mdel k (mapT f l) = mapT f (gdel k l)
  | [] => rfl
  | (k', b') :: l => by
    show (if k = k' then mapT f l else (k', f b') :: mdel k (mapT f l)) = _
    rw [mdel_T f k l, gdel]
    split <;> rfl
theorem gget_put (k k' : α) (b : β) : ∀ l : List (α × β), gget k (gput k' b l) = if k = k' then some b else gget k l
  | [] => by simp [gput, gget]
  | (k2, b2) :: l => by
    simp only [gput]
    by_cases h : k' = k2
    · subst h
      simp only [if_true, gget]
      split <;> rfl
    · simp only [if_neg h, gget, gget_put k k' b l]
      by_cases h2 : k = k2
      · subst h2
        simp [Ne.symm h]
      · simp [h2]
theorem gget_mem {k : α} : ∀ {l : List (α × β)}, (gget k l).isSome = true ↔ k ∈ l.map (·.1)
  | [] => by simp [gget]
  | (k', b) :: l => by
    simp only [gget, List.map_cons, List.mem_cons]
    by_cases h : k = k'
    · simp [h]
    · simp only [if_neg h, h, false_or]
      exact gget_mem
theorem gget_none {k : α} {l : List (α × β)} : gget k l = none ↔ k ∉ l.map (·.1) := by
  rw [← gget_mem]
  cases gget k l <;> simp
theorem gput_keys (k : α) (b : β) : ∀ l : List (α × β), (gput k b l).map (·.1) = if k ∈ l.map (·.1) then l.map (·.1) else l.map (·.1) ++ [k]
  | [] => by simp [gput]
  | (k', b') :: l => by
    rw [gput]
    by_cases h : k = k'
    · rw [if_pos h, if_pos (by rw [h]; simp)]
      simp [h]
    · rw [if_neg h, List.map_cons, gput_keys k b l]
      by_cases h2 : k ∈ l.map (·.1)
      · rw [if_pos h2, if_pos (by rw [List.map_cons]; exact List.mem_cons_of_mem _ h2)]
        rfl
      · rw [if_neg h2, if_neg (by rw [List.map_cons, List.mem_cons]; exact fun h3 => h3.elim h h2)]
        rfl
theorem gput_nodup {k : α} {b : β} {l : List (α × β)} (h : (l.map (·.1)).Nodup) : ((gput k b l).map (·.1)).Nodup := by
  rw [gput_keys]
  split
  · exact h
  · next hk =>
    rw [List.nodup_append]
    refine ⟨h, by simp, fun a ha b hb => ?_⟩
    rw [List.mem_singleton.1 hb]
    intro he; rw [he] at ha; exact hk ha
end
section
variable {P : Program} {F : Frm} {L : Tab} {d : Option Tmp} {ty : TypeId} {pos : String} {aft : Array Edge} {g : Option (Nat × Bool)} {ρ : Operand → AV} {hp : List Blk} {K : AV → List Blk → Prop} {α : Type} [DecidableEq α] {κ : α → Value} {dk : TypeDesc} {te : TI} {x y : Operand} {i b : Nat} {o : Option (List Nat × Nat)}
theorem lo_lookup_aggn (hκ : KeyIs dk κ) (hL : TabOk P L) {xT kT eT : TypeId} {l : List (α × T)} {k : α} (hu : P.underlying xT = some (.map kT eT)) (hk : P.underlying kT = some dk) (hte : L.look eT = some te) (ha : te.agg = true) (hx : ρ x = .own i (.map (some b))) (hi : hp[i]? = some (.mpx b (mkeys κ l) o)) (hy : ρ y = .c (.lit (κ k)))
    (h : K (.c ((mget k l).getD (.agg (te.zero.map fun v => T.lit v)))) hp) : LO P F ⟨d, .lookup xT x y false, ty, pos, aft, g⟩ ρ hp K := by
  refine LO.same (fun M e w he hh => ?_) h
  have h1 := he x (by first | (simp [Op.operands]; done) | simp [Op.operands, Call.operands])
  rw [hx] at h1
  simp only [RA] at h1
  have h2 := he y (by first | (simp [Op.operands]; done) | simp [Op.operands, Call.operands])
  rw [hy] at h2
  simp only [RA, RT] at h2
  obtain ⟨es, clock, hb, hkeys, hvals, -, -⟩ := hh.at_ i _ hi
  have hkeys' : es.map (·.key) = l.map (fun p => κ p.1) := by rw [hkeys]; simp [mkeys]
  have hvals' : RTs M (l.map (·.2)) (es.map (·.val)) := by simpa [mkeys, Function.comp_def] using hvals
  rcases find_keys hκ k l es 0 hkeys' with ⟨f1, f2, _⟩ | ⟨j, e', t, f1, f2, f3, f4, _⟩
  · obtain ⟨inf, zv, g1, _, _, g2, g3, g4, g5⟩ := hL.info hte
    rw [ha] at g5
    obtain ⟨a, rfl⟩ : ∃ a, zv = .agg a := by cases zv <;> simp_all
    have hza : a.toList = te.zero := g3
    have hzr : (zeroValue eT).run P w = .ok (.agg a) w := by simp [zeroValue, typeInfo, g1, g2]
    refine ⟨.agg a, ?_, by rw [f2]; simp only [Option.getD_none, RA, RT]; exact ⟨te.zero, by rw [← hza], lits_rts M te.zero⟩⟩
    simp [execOp, Instr.lookup, h1.1, h2, run_underlying hu, MapKept.run_getObj_map hb, MapKept.run_checkKey hk (hκ.is k), MapKept.run_findKey hk f1, hzr]
  · obtain ⟨u, hu1, hu2⟩ := hvals'.get (j := j) (t := t) (by rw [List.getElem?_map, f3]; rfl)
    rw [List.getElem?_map, f2] at hu1
    obtain rfl : e'.val = u := by simpa using hu1
    refine ⟨e'.val, ?_, by rw [f4]; simpa only [Option.getD_some, RA] using hu2⟩
    simp [execOp, Instr.lookup, h1.1, h2, run_underlying hu, MapKept.run_getObj_map hb, MapKept.run_checkKey hk (hκ.is k), MapKept.run_findKey hk f1]
end
section
variable {P : Program} {F : Frm} {L : Tab} {d : Option Tmp} {ty : TypeId} {pos : String} {aft : Array Edge} {g : Option (Nat × Bool)} {ρ : Operand → AV} {hp : List Blk} {K : AV → List Blk → Prop} {te : TI} {x y : Operand} {i b : Nat} {o : Option (List Nat × Nat)} {xT : TypeId}
theorem zLksn (kT eT : TypeId) {s : ByteArray} {l : List (ByteArray × T)} {zs : List T} {t : T} (ht : (mget s l).getD (.agg zs) = t) (h : K (.c t) hp) (hL : TabOk P L := by exact tok) (hu : isMap P xT = some (kT, eT) := by kernel_rfl) (hk : P.underlying kT = some .string := by kernel_rfl) (hte : L.look eT = some te := by exact rfl) (hz : te.zero.map (fun v => T.lit v) = zs := by exact rfl) (ha : te.agg = true := by exact rfl) (hx : ρ x = .own i (.map (some b)) := by exact rfl) (hi : hp[i]? = some (.mpx b (mkeys Value.string l) o) := by exact rfl) (hy : ρ y = .c (.lit (.string s)) := by exact rfl) :
    LO P F ⟨d, .lookup xT x y false, ty, pos, aft, g⟩ ρ hp K := lo_lookup_aggn keyStr hL (isMap_eq hu) hk hte ha hx hi hy (by rw [hz, ht]; exact h)
/-- an entry is written, the map told anew -/
theorem zUpt (kT eT : TypeId) {y z : Operand} {s : ByteArray} {l l' : List (ByteArray × T)} {t : T} {hp' : List Blk} (hl : mput s t l = l') (h : K (.c (.lit undef)) hp') (hu : isMap P xT = some (kT, eT) := by kernel_rfl) (hk : P.underlying kT = some .string := by kernel_rfl) (hx : ρ x = .own i (.map (some b)) := by exact rfl) (hi : hp[i]? = some (.mp b (mkeys Value.string l)) := by exact rfl) (hy : ρ y = .c (.lit (.string s)) := by exact rfl) (hz : Rzs [] [ρ z] [t] := by repeat (first | exact rzs_nil | apply rzs_cons | exact rz_c | exact rz_nil rfl | apply rz_agg | apply rz_fn | apply rz_tup)) (hf : evl (hp.set i (.mp b (mkeys Value.string l'))) = some hp' := by exact rfl) :
    LO P F ⟨d, .mapUpdate xT x y z, ty, pos, aft, g⟩ ρ hp K := lo_mapUpdate keyStr (isMap_eq hu) hk hx hi hy (fun M u h => by have := re_cls hz M u h; simpa only [RA] using this) (.inl rfl) (by rw [hl, ← evl_eq hf] at *; exact h)
theorem zDelt (kT eT : TypeId) {tk : TypeId} {y : Operand} {s : ByteArray} {l l' : List (ByteArray × T)} {hp' : List Blk} (hl : mdel s l = l') (h : K (.c (.tup [])) hp') (hu : isMap P xT = some (kT, eT) := by kernel_rfl) (hk : P.underlying kT = some .string := by kernel_rfl) (hx : ρ x = .own i (.map (some b)) := by exact rfl) (hi : hp[i]? = some (.mp b (mkeys Value.string l)) := by exact rfl) (hy : ρ y = .c (.lit (.string s)) := by exact rfl) (hf : evl (hp.set i (.mp b (mkeys Value.string l'))) = some hp' := by exact rfl) :
    LO P F ⟨d, .call { callee := .builtin .delete, args := #[x, y], argTypes := #[xT, tk] }, ty, pos, aft, g⟩ ρ hp K := zDels kT eT (hp' := hp') (l := l) h hu hk hx hi hy (by rw [hl]; exact hf)
end
end Go.Proofs.Ytnkafjkcjpajgaa
namespace Go.Proofs.Ytnkafjkcjpajgaa
open Go.RowKit
theorem byt_at {l : List UInt8} {k : Nat} {a : UInt8} (h : l[k]? = some a) : (byts l)[k * 1]? = some (bytT a) := by simp [byts, h]
theorem okTo_at {l : List UInt8} {k : Nat} {b : UInt8} (hb : l[k]? = some b) (h : okTo l k) (hx : okN k b.toNat = true) : okTo l (k + 1) := by
  obtain ⟨h1, rfl⟩ := List.getElem?_eq_some_iff.1 hb
  exact okTo_succ h h1 hx
theorem nameOk_at {l : List UInt8} {k : Nat} {b : UInt8} (hb : l[k]? = some b) (hx : okN k b.toNat = false) : nameOk l = false := by
  obtain ⟨h1, rfl⟩ := List.getElem?_eq_some_iff.1 hb
  exact nameOk_bad h1 hx
set_option maxRecDepth 100000 in
set_option maxHeartbeats 4000000 in
theorem name_af (l : List UInt8) (hl : l.length ≤ 1048576) : AF Try.prog 87 [.lit (.string (bs l))] (· = .lit (.bool (nameOk l))) := by
  have hsz := bs_size' l
  refine af_enter tok Try.func87 Try.ntmps87 Try.results87 rfl (by kernel_rfl) rfl rfl fun F hX => ?_
  repeat (first | refine gG ?_ | refine zN1 (fun hlen => ?_) | refine zN2 (fun hlen => ?_))
  refine x_loop [2, 3, 4, 5, 8, 9, 10, 11, 12, 13, 14, 15, 16, 17, 18, 19, 20, 21, 22, 23, 24, 25, 26, 27, 28, 29, 30, 31, 32, 33, 34, 35, 36, 37, 38] (fun k : Nat => [(8, .c (.lit (.int .i64 (k : Nat))))]) (fun _ => []) (fun k => k ≤ l.length ∧ okTo l k) (fun k => l.length - k) 0 ⟨Nat.zero_le _, okTo_zero l⟩ ⟨rfl, trivial⟩ rfl ?_
  rintro k ⟨hk, hok⟩
  repeat (first | refine gG ?_ | refine zN1 (fun hlen => ?_) | refine zN2 (fun hlen => ?_))
  refine x_cond rfl (fun h => ?_) (fun h => ?_)
  · have hk' : k < l.length := by rw [hsz] at h; simpa using h
    obtain ⟨b, hb⟩ := nth hk'
    have hy := fun h => okTo_at hb hok h
    have hn := fun h => nameOk_at (k := k) hb h
    repeat (first | refine gG ?_ | refine zN1 (fun hlen => ?_) | refine zN2 (fun hlen => ?_))
    refine zSix k hb ?_
    clear hb hok
    have hxx : okN k b.toNat = (decide (97 ≤ b.toNat ∧ b.toNat ≤ 122) || (decide (k ≠ 0) && (decide (b.toNat = 95) || decide (48 ≤ b.toNat ∧ b.toNat ≤ 57)))) := rfl
    generalize okN k b.toNat = okk at *
    generalize b.toNat = x at *
    cases d1 : decide ((97 : Int) ≤ (x : Int))
    · cases d3 : decide ((k : Int) = 0)
      · cases d4 : decide ((x : Int) = 95)
        · cases d5 : decide ((x : Int) < 48)
          · cases d6 : decide ((57 : Int) < (x : Int))
            · repeat (first | refine gG ?_ | refine zN1 (fun hlen => ?_) | refine zN2 (fun hlen => ?_))
              exact ⟨k + 1, ⟨hk', hy (by rw [hxx]; simp at d1 d3 d4 d5 d6; simp; omega)⟩, by omega, x_wkd 0 ⟨rfl, trivial⟩ rfl (by repeat (first | exact ag_refl | refine ag_upd rfl ?_ | refine ag_at rfl rfl ?_))⟩
            · repeat (first | refine gG ?_ | refine zN1 (fun hlen => ?_) | refine zN2 (fun hlen => ?_))
              first | refine zR ?_ | refine zQ ?_
              rw [hn (by rw [hxx]; simp at d1 d3 d4 d5 d6; simp; omega)]
              rfl
          · repeat (first | refine gG ?_ | refine zN1 (fun hlen => ?_) | refine zN2 (fun hlen => ?_))
            first | refine zR ?_ | refine zQ ?_
            rw [hn (by rw [hxx]; simp at d1 d3 d4 d5; simp; omega)]
            rfl
        · repeat (first | refine gG ?_ | refine zN1 (fun hlen => ?_) | refine zN2 (fun hlen => ?_))
          exact ⟨k + 1, ⟨hk', hy (by rw [hxx]; simp at d1 d3 d4; simp; omega)⟩, by omega, x_wkd 0 ⟨rfl, trivial⟩ rfl (by repeat (first | exact ag_refl | refine ag_upd rfl ?_ | refine ag_at rfl rfl ?_))⟩
      · repeat (first | refine gG ?_ | refine zN1 (fun hlen => ?_) | refine zN2 (fun hlen => ?_))
        first | refine zR ?_ | refine zQ ?_
        rw [hn (by rw [hxx]; simp at d1 d3; simp; omega)]
        rfl
    · cases d2 : decide ((x : Int) ≤ 122)
      · cases d3 : decide ((k : Int) = 0)
        · cases d4 : decide ((x : Int) = 95)
          · cases d5 : decide ((x : Int) < 48)
            · cases d6 : decide ((57 : Int) < (x : Int))
              · repeat (first | refine gG ?_ | refine zN1 (fun hlen => ?_) | refine zN2 (fun hlen => ?_))
                exact ⟨k + 1, ⟨hk', hy (by rw [hxx]; simp at d1 d2 d3 d4 d5 d6; simp; omega)⟩, by omega, x_wkd 0 ⟨rfl, trivial⟩ rfl (by repeat (first | exact ag_refl | refine ag_upd rfl ?_ | refine ag_at rfl rfl ?_))⟩
              · repeat (first | refine gG ?_ | refine zN1 (fun hlen => ?_) | refine zN2 (fun hlen => ?_))
                first | refine zR ?_ | refine zQ ?_
                rw [hn (by rw [hxx]; simp at d1 d2 d3 d4 d5 d6; simp; omega)]
                rfl
            · repeat (first | refine gG ?_ | refine zN1 (fun hlen => ?_) | refine zN2 (fun hlen => ?_))
              first | refine zR ?_ | refine zQ ?_
              rw [hn (by rw [hxx]; simp at d1 d2 d3 d4 d5; simp; omega)]
              rfl
          · repeat (first | refine gG ?_ | refine zN1 (fun hlen => ?_) | refine zN2 (fun hlen => ?_))
            exact ⟨k + 1, ⟨hk', hy (by rw [hxx]; simp at d1 d2 d3 d4; simp; omega)⟩, by omega, x_wkd 0 ⟨rfl, trivial⟩ rfl (by repeat (first | exact ag_refl | refine ag_upd rfl ?_ | refine ag_at rfl rfl ?_))⟩
        · repeat (first | refine gG ?_ | refine zN1 (fun hlen => ?_) | refine zN2 (fun hlen => ?_))
          first | refine zR ?_ | refine zQ ?_
          rw [hn (by rw [hxx]; simp at d1 d2 d3; simp; omega)]
          rfl
      · repeat (first | refine gG ?_ | refine zN1 (fun hlen => ?_) | refine zN2 (fun hlen => ?_))
        exact ⟨k + 1, ⟨hk', hy (by rw [hxx]; simp at d1 d2; simp; omega)⟩, by omega, x_wkd 0 ⟨rfl, trivial⟩ rfl (by repeat (first | exact ag_refl | refine ag_upd rfl ?_ | refine ag_at rfl rfl ?_))⟩
  · have hk' : k = l.length := by rw [hsz] at h; have : ¬ k < l.length := by simpa using h
                                  omega
    subst hk'
    cases d1 : decide (bs l = (⟨#[]⟩ : ByteArray))
    · cases d2 : decide (((bs l).size : Int) ≤ 16)
      · repeat (first | refine gG ?_ | refine zN1 (fun hlen => ?_) | refine zN2 (fun hlen => ?_))
        first | refine zR ?_ | refine zQ ?_
        rw [nameOk_long (by have := of_decide_eq_false d2; omega), d2]
        rfl
      · repeat (first | refine gG ?_ | refine zN1 (fun hlen => ?_) | refine zN2 (fun hlen => ?_))
        first | refine zR ?_ | refine zQ ?_
        have h0 : l ≠ [] := by
          rintro rfl
          exact absurd rfl (of_decide_eq_false d1)
        rw [nameOk_yes h0 (by have := of_decide_eq_true d2; omega) hok, d2]
        rfl
    · repeat (first | refine gG ?_ | refine zN1 (fun hlen => ?_) | refine zN2 (fun hlen => ?_))
      first | refine zR ?_ | refine zQ ?_
      have h0 : l = [] := by
        have := congrArg (fun s => s.data.toList) (of_decide_eq_true d1)
        exact this
      rw [h0, nameOk_nil]
      rfl
end Go.Proofs.Ytnkafjkcjpajgaa
namespace Go.Proofs.Ytnkafjkcjpajgaa
open Go.RowKit
set_option maxRecDepth 100000 in
set_option maxHeartbeats 4000000 in
theorem moduleName_af (l : List UInt8) (hl : l.length ≤ 1048576) : AF Try.prog 91 [.lit (.string (bs l))] (· = .lit (.bool (nameOk l))) := by
  have hsz := bs_size' l
  refine af_enter tok Try.func91 Try.ntmps91 Try.results91 rfl (by kernel_rfl) rfl rfl fun F hX => ?_
  cases d1 : decide (bs l = (⟨#[]⟩ : ByteArray))
  rotate_left
  · repeat (first | refine gG ?_ | refine zN1 (fun hlen => ?_) | refine zN2 (fun hlen => ?_))
    first | refine zR ?_ | refine zQ ?_
    have h0 : l = [] := by
      have := congrArg (fun s => s.data.toList) (of_decide_eq_true d1)
      exact this
    rw [h0, nameOk_nil]
    rfl
  cases d2 : decide ((16 : Int) < ((bs l).size : Int))
  rotate_left
  · repeat (first | refine gG ?_ | refine zN1 (fun hlen => ?_) | refine zN2 (fun hlen => ?_))
    first | refine zR ?_ | refine zQ ?_
    rw [nameOk_long (by have := of_decide_eq_true d2; omega)]
    rfl
  have h0 : l ≠ [] := by
    rintro rfl
    exact absurd rfl (of_decide_eq_false d1)
  have h16 : l.length ≤ 16 := by have := of_decide_eq_false d2; omega
  repeat (first | refine gG ?_ | refine zN1 (fun hlen => ?_) | refine zN2 (fun hlen => ?_))
  clear d1 d2
  refine zByt (by rw [hsz]; simp only [maxLen]; omega) ?_
  rw [show (bs l).data.toList = l from rfl]
  repeat (first | refine gG ?_ | refine zN1 (fun hlen => ?_) | refine zN2 (fun hlen => ?_))
  refine x_loop [2, 3, 4, 5, 16, 17, 18, 19, 20, 21, 22, 23, 24, 25, 26, 27, 28, 29, 30, 31, 32, 33, 34, 35, 36, 37, 38, 39, 40, 41, 42, 43, 44, 45] (fun k : Nat => [(16, .c (.lit (.int .i64 (k : Nat))))]) (fun _ => []) (fun k => k ≤ l.length ∧ okTo l k) (fun k => l.length - k) 0 ⟨Nat.zero_le _, okTo_zero l⟩ ⟨rfl, trivial⟩ rfl ?_
  rintro k ⟨hk, hok⟩
  repeat (first | refine gG ?_ | refine zN1 (fun hlen => ?_) | refine zN2 (fun hlen => ?_))
  refine x_cond rfl (fun h => ?_) (fun h => ?_)
  · have hk' : k < l.length := by simpa using h
    obtain ⟨b, hb⟩ := nth hk'
    have hy := fun h => okTo_at hb hok h
    have hn := fun h => nameOk_at (k := k) hb h
    repeat (first | refine gG ?_ | refine zN1 (fun hlen => ?_) | refine zN2 (fun hlen => ?_))
    refine zIx k hk' ?_
    repeat (first | refine gG ?_ | refine zN1 (fun hlen => ?_) | refine zN2 (fun hlen => ?_))
    refine zEl1 (v := .lit (.int .u8 (b.toNat : Int))) (byt_at hb) ?_
    clear hb hok
    have hxx : okN k b.toNat = (decide (97 ≤ b.toNat ∧ b.toNat ≤ 122) || (decide (k ≠ 0) && (decide (b.toNat = 95) || decide (48 ≤ b.toNat ∧ b.toNat ≤ 57)))) := rfl
    generalize okN k b.toNat = okk at *
    generalize b.toNat = x at *
    cases d1 : decide ((97 : Int) ≤ (x : Int))
    · cases d3 : decide ((k : Int) = 0)
      · cases d4 : decide ((x : Int) = 95)
        · cases d5 : decide ((x : Int) < 48)
          · cases d6 : decide ((57 : Int) < (x : Int))
            · repeat (first | refine gG ?_ | refine zN1 (fun hlen => ?_) | refine zN2 (fun hlen => ?_))
              exact ⟨k + 1, ⟨hk', hy (by rw [hxx]; simp at d1 d3 d4 d5 d6; simp; omega)⟩, by omega, x_wkd 0 ⟨rfl, trivial⟩ rfl (by repeat (first | exact ag_refl | refine ag_upd rfl ?_ | refine ag_at rfl rfl ?_))⟩
            · repeat (first | refine gG ?_ | refine zN1 (fun hlen => ?_) | refine zN2 (fun hlen => ?_))
              first | refine zR ?_ | refine zQ ?_
              rw [hn (by rw [hxx]; simp at d1 d3 d4 d5 d6; simp; omega)]
              rfl
          · repeat (first | refine gG ?_ | refine zN1 (fun hlen => ?_) | refine zN2 (fun hlen => ?_))
            first | refine zR ?_ | refine zQ ?_
            rw [hn (by rw [hxx]; simp at d1 d3 d4 d5; simp; omega)]
            rfl
        · repeat (first | refine gG ?_ | refine zN1 (fun hlen => ?_) | refine zN2 (fun hlen => ?_))
          exact ⟨k + 1, ⟨hk', hy (by rw [hxx]; simp at d1 d3 d4; simp; omega)⟩, by omega, x_wkd 0 ⟨rfl, trivial⟩ rfl (by repeat (first | exact ag_refl | refine ag_upd rfl ?_ | refine ag_at rfl rfl ?_))⟩
      · repeat (first | refine gG ?_ | refine zN1 (fun hlen => ?_) | refine zN2 (fun hlen => ?_))
        first | refine zR ?_ | refine zQ ?_
        rw [hn (by rw [hxx]; simp at d1 d3; simp; omega)]
        rfl
    · cases d2 : decide ((x : Int) ≤ 122)
      · cases d3 : decide ((k : Int) = 0)
        · cases d4 : decide ((x : Int) = 95)
          · cases d5 : decide ((x : Int) < 48)
            · cases d6 : decide ((57 : Int) < (x : Int))
              · repeat (first | refine gG ?_ | refine zN1 (fun hlen => ?_) | refine zN2 (fun hlen => ?_))
                exact ⟨k + 1, ⟨hk', hy (by rw [hxx]; simp at d1 d2 d3 d4 d5 d6; simp; omega)⟩, by omega, x_wkd 0 ⟨rfl, trivial⟩ rfl (by repeat (first | exact ag_refl | refine ag_upd rfl ?_ | refine ag_at rfl rfl ?_))⟩
              · repeat (first | refine gG ?_ | refine zN1 (fun hlen => ?_) | refine zN2 (fun hlen => ?_))
                first | refine zR ?_ | refine zQ ?_
                rw [hn (by rw [hxx]; simp at d1 d2 d3 d4 d5 d6; simp; omega)]
                rfl
            · repeat (first | refine gG ?_ | refine zN1 (fun hlen => ?_) | refine zN2 (fun hlen => ?_))
              first | refine zR ?_ | refine zQ ?_
              rw [hn (by rw [hxx]; simp at d1 d2 d3 d4 d5; simp; omega)]
              rfl
          · repeat (first | refine gG ?_ | refine zN1 (fun hlen => ?_) | refine zN2 (fun hlen => ?_))
            exact ⟨k + 1, ⟨hk', hy (by rw [hxx]; simp at d1 d2 d3 d4; simp; omega)⟩, by omega, x_wkd 0 ⟨rfl, trivial⟩ rfl (by repeat (first | exact ag_refl | refine ag_upd rfl ?_ | refine ag_at rfl rfl ?_))⟩
        · repeat (first | refine gG ?_ | refine zN1 (fun hlen => ?_) | refine zN2 (fun hlen => ?_))
          first | refine zR ?_ | refine zQ ?_
          rw [hn (by rw [hxx]; simp at d1 d2 d3; simp; omega)]
          rfl
      · repeat (first | refine gG ?_ | refine zN1 (fun hlen => ?_) | refine zN2 (fun hlen => ?_))
        exact ⟨k + 1, ⟨hk', hy (by rw [hxx]; simp at d1 d2; simp; omega)⟩, by omega, x_wkd 0 ⟨rfl, trivial⟩ rfl (by repeat (first | exact ag_refl | refine ag_upd rfl ?_ | refine ag_at rfl rfl ?_))⟩
  · have hk' : k = l.length := by have : ¬ k < l.length := by simpa using h
                                  omega
    subst hk'
    repeat (first | refine gG ?_ | refine zN1 (fun hlen => ?_) | refine zN2 (fun hlen => ?_))
    first | refine zR ?_ | refine zQ ?_
    rw [nameOk_yes h0 h16 hok]
    rfl
end Go.Proofs.Ytnkafjkcjpajgaa
namespace Go.Proofs.Ytnkafjkcjpajgaa
open Go.RowKit
def Asc (l : List Pk) : Prop := l.Pairwise fun a b => strLt a.name b.name = true
theorem nameOk_size {s : List UInt8} (h : nameOk s = true) : s.length ≤ 16 := by
  rcases Nat.lt_or_ge 16 s.length with h1 | h1
  · rw [nameOk_long h1] at h; cases h
  · exact h1
theorem Asc.names {l : List Pk} (h : Asc l) : (l.map Pk.name).Nodup := by
  refine List.pairwise_map.2 (h.imp fun {a b} h1 e => ?_)
  rw [e, strLt_irrefl] at h1
  cases h1
structure Tn where
  name : ByteArray
  old : Int
  new : Int
def Tn.ts : Tn → List T
  | ⟨n, o, w⟩ => [.lit (.string n), .lit (.int .i64 o), .lit (.int .i64 w)]
theorem Tn.ts_len (x : Tn) : x.ts.length = 3 := rfl
def Tn.t (x : Tn) : T := .agg x.ts
def Tn.row (l : List Tn) : T := .row l.length 3 (l.flatMap Tn.ts)
theorem Tn.at {l : List Tn} {k : Nat} {x : Tn} (h : l[k]? = some x) : ((l.flatMap Tn.ts).drop (k * 3)).take 3 = x.ts := flat_at Tn.ts 3 Tn.ts_len h
/-- maps of numbers -/
def iT (i : Int) : T := .lit (.int .i64 i)
end Go.Proofs.Ytnkafjkcjpajgaa
namespace Go.Proofs.Ytnkafjkcjpajgaa
open Go.RowKit
theorem gput_new {α β : Type} [DecidableEq α] {k : α} {b : β} : ∀ {l : List (α × β)}, k ∉ l.map (·.1) → gput k b l = l ++ [(k, b)]
  | [], _ => rfl
  | (k', b') :: l, h => by
    rw [List.map_cons, List.mem_cons] at h
    rw [gput, if_neg (fun e => h (.inl e)), gput_new fun h2 => h (.inr h2)]
    rfl
theorem gdel_new {α β : Type} [DecidableEq α] {k : α} {b : β} : ∀ {l : List (α × β)}, k ∉ l.map (·.1) → gdel k (l ++ [(k, b)]) = l
  | [], _ => by simp [gdel]
  | (k', b') :: l, h => by
    rw [List.map_cons, List.mem_cons] at h
    rw [List.cons_append, gdel, if_neg (fun e => h (.inl e)), gdel_new fun h2 => h (.inr h2)]
theorem gget_app {α β : Type} [DecidableEq α] {k k' : α} {b : β} : ∀ {l : List (α × β)}, k' ∉ l.map (·.1) → gget k (l ++ [(k', b)]) = if k = k' then some b else gget k l
  | [], _ => rfl
  | (k2, b2) :: l, h => by
    rw [List.map_cons, List.mem_cons] at h
    rw [List.cons_append, gget, gget, gget_app fun h2 => h (.inr h2)]
    by_cases h1 : k = k2
    · rw [if_pos h1, if_pos h1, if_neg]
      intro h3; exact h (.inl (h3.symm.trans h1))
    · rw [if_neg h1, if_neg h1]
abbrev PM := List (ByteArray × Md)
def wantsP (root : List Us) (P : PM) : List Us := root ++ P.flatMap (fun p => p.2.uses)
theorem wants_new (root : List Us) (P : PM) (n : ByteArray) (m : Md) : wantsP root (P ++ [(n, m)]) = wantsP root P ++ m.uses := by simp [wantsP]
def inV (u : Us) (v : Int) : Bool := !(decide (v < u.low) || decide (u.high < v))
def okW (P : PM) (u : Us) : Bool := match gget u.name P with | none => true | some m => inV u m.version
def satP (W : List Us) (P : PM) : Bool := W.all (okW P)
def openStep (P : PM) (o : Option ByteArray) (u : Us) : Option ByteArray :=
  bif (gget u.name P).isSome then o else match o with | none => some u.name | some n => bif strLt u.name n then some u.name else some n
def openP (P : PM) (W : List Us) : Option ByteArray := W.foldl (openStep P) none
def likedB (fs : List Pk) (m : Md) : Bool := fs.any fun p => decide (p.name = m.name) && decide (p.version = m.version)
def nameB (n : ByteArray) (m : Md) : Bool := decide (m.name = n)
def prefL (fs : List Pk) (n : ByteArray) (r : List Md) : List Md := r.filter fun m => nameB n m && likedB fs m
def otherL (fs : List Pk) (n : ByteArray) (r : List Md) : List Md := r.filter fun m => nameB n m && !likedB fs m
def cand (l : List Md) (fs : List Pk) (n : ByteArray) : List Md := prefL fs n l.reverse ++ otherL fs n l.reverse
def compl (l : List Md) (fs : List Pk) (root : List Us) : Nat → PM → Option PM
  | 0, _ => none
  | k + 1, P => match openP P (wantsP root P) with
    | none => some P
    | some n => (cand l fs n).findSome? fun m => bif satP (wantsP root (P ++ [(n, m)])) (P ++ [(n, m)]) then compl l fs root k (P ++ [(n, m)]) else none
theorem cand_mem {l : List Md} {fs : List Pk} {n : ByteArray} {m : Md} (h : m ∈ cand l fs n) : m ∈ l ∧ m.name = n := by
  unfold cand prefL otherL at h
  rcases List.mem_append.1 h with h | h
  · obtain ⟨h1, h2⟩ := List.mem_filter.1 h
    simp only [Bool.and_eq_true, nameB, decide_eq_true_eq] at h2
    exact ⟨List.mem_reverse.1 h1, h2.1⟩
  · obtain ⟨h1, h2⟩ := List.mem_filter.1 h
    simp only [Bool.and_eq_true, nameB, decide_eq_true_eq] at h2
    exact ⟨List.mem_reverse.1 h1, h2.1⟩
theorem cand_len (l : List Md) (fs : List Pk) (n : ByteArray) : (cand l fs n).length ≤ 2 * l.length := by
  unfold cand prefL otherL
  rw [List.length_append]
  have h1 := List.length_filter_le (fun m => nameB n m && likedB fs m) l.reverse
  have h2 := List.length_filter_le (fun m => nameB n m && !likedB fs m) l.reverse
  rw [List.length_reverse] at h1 h2
  omega
/-- a selection so far -/
structure VP (l : List Md) (P : PM) : Prop where
  nodup : (P.map (·.1)).Nodup
  mem : ∀ p ∈ P, p.2 ∈ l ∧ p.2.name = p.1
theorem VP.nil (l : List Md) : VP l [] := ⟨List.nodup_nil, fun p h => by cases h⟩
theorem VP.len {l : List Md} {P : PM} (h : VP l P) : P.length ≤ l.length := by
  have h1 : (P.map (·.2)).Nodup := by
    refine List.pairwise_map.2 ((List.pairwise_map.1 h.nodup).imp_of_mem fun {a b} ha hb hne e => ?_)
    rw [← (h.mem a ha).2, ← (h.mem b hb).2, e] at hne
    exact hne rfl
  have := h1.length_le_of_subset (l₂ := l) fun x hx => by
    obtain ⟨p, hp, rfl⟩ := List.mem_map.1 hx
    exact (h.mem p hp).1
  simpa using this
theorem VP.add {l : List Md} {P : PM} (h : VP l P) {n : ByteArray} {m : Md} (hn : n ∉ P.map (·.1)) (hm : m ∈ l ∧ m.name = n) : VP l (P ++ [(n, m)]) := by
  refine ⟨?_, fun p hp => ?_⟩
  · rw [List.map_append, List.nodup_append]
    refine ⟨h.nodup, by simp, fun a ha b hb e => ?_⟩
    simp only [List.map_cons, List.map_nil, List.mem_singleton] at hb
    rw [e, hb] at ha; exact hn ha
  · rcases List.mem_append.1 hp with hp | hp
    · exact h.mem p hp
    · rw [List.mem_singleton.1 hp]; exact hm
theorem strLt_total {a b : ByteArray} (h : strLt a b = false) (h' : strLt b a = false) : a = b := by
  rw [strLt_bl, decide_eq_false_iff_not] at h h'
  exact bl_inj (List.le_antisymm h' h)
/-- what is found among wants: the least open name -/
def IsOpen (P : PM) (W : List Us) : Option ByteArray → Prop
  | none => ∀ u ∈ W, u.name ∈ P.map (·.1)
  | some n => (∃ u ∈ W, u.name = n) ∧ n ∉ P.map (·.1) ∧ ∀ u ∈ W, u.name ∉ P.map (·.1) → strLt u.name n = false
theorem isOpen_det {P : PM} {W W' : List Us} (hW : ∀ u, u ∈ W ↔ u ∈ W') {o o' : Option ByteArray} (h : IsOpen P W o) (h' : IsOpen P W' o') : o = o' := by
  cases o with
  | none =>
    cases o' with
    | none => rfl
    | some n' =>
      obtain ⟨⟨u, hu, rfl⟩, h2, _⟩ := h'
      exact absurd (h u ((hW u).2 hu)) h2
  | some n =>
    obtain ⟨⟨u, hu, rfl⟩, h2, h3⟩ := h
    cases o' with
    | none => exact absurd (h' u ((hW u).1 hu)) h2
    | some n' =>
      obtain ⟨⟨u', hu', rfl⟩, h5, h6⟩ := h'
      rw [strLt_total (h6 u ((hW u).1 hu) h2) (h3 u' ((hW u').2 hu') h5)]
theorem isOpen_step {P : PM} {W : List Us} {o : Option ByteArray} (h : IsOpen P W o) (u : Us) : IsOpen P (W ++ [u]) (openStep P o u) := by
  unfold openStep
  cases hs : (gget u.name P).isSome
  · have hu : u.name ∉ P.map (·.1) := fun hm => by rw [gget_mem.2 hm] at hs; cases hs
    rw [cond_false]
    cases o with
    | none =>
      refine ⟨⟨u, by simp, rfl⟩, hu, fun v hv hn => ?_⟩
      rcases List.mem_append.1 hv with hv | hv
      · exact absurd (h v hv) hn
      · rw [List.mem_singleton.1 hv]; exact strLt_irrefl _
    | some n =>
      obtain ⟨⟨w, hw, hwn⟩, h2, h3⟩ := h
      show IsOpen P (W ++ [u]) (bif strLt u.name n then some u.name else some n)
      cases hl : strLt u.name n
      · refine ⟨⟨w, by simp [hw], hwn⟩, h2, fun v hv hn => ?_⟩
        rcases List.mem_append.1 hv with hv | hv
        · exact h3 v hv hn
        · rw [List.mem_singleton.1 hv]; exact hl
      · refine ⟨⟨u, by simp, rfl⟩, hu, fun v hv hn => ?_⟩
        rcases List.mem_append.1 hv with hv | hv
        · cases hc : strLt v.name u.name with
          | false => rfl
          | true => exact absurd (strLt_trans hc hl) (by rw [h3 v hv hn]; simp)
        · rw [List.mem_singleton.1 hv]; exact strLt_irrefl _
  · have hu : u.name ∈ P.map (·.1) := gget_mem.1 hs
    rw [cond_true]
    cases o with
    | none =>
      intro v hv
      rcases List.mem_append.1 hv with hv | hv
      · exact h v hv
      · rw [List.mem_singleton.1 hv]; exact hu
    | some n =>
      obtain ⟨⟨w, hw, hwn⟩, h2, h3⟩ := h
      refine ⟨⟨w, by simp [hw], hwn⟩, h2, fun v hv hn => ?_⟩
      rcases List.mem_append.1 hv with hv | hv
      · exact h3 v hv hn
      · rw [List.mem_singleton.1 hv] at hn; exact absurd hu hn
theorem openP_snoc {P : PM} {W : List Us} {k : Nat} {u : Us} (h : W[k]? = some u) : openP P (W.take (k + 1)) = openStep P (openP P (W.take k)) u := by
  obtain ⟨h1, rfl⟩ := List.getElem?_eq_some_iff.1 h
  rw [openP, List.take_succ_eq_append_getElem h1, List.foldl_append]
  rfl
theorem isOpen_P (P : PM) (W : List Us) : IsOpen P W (openP P W) := by
  have h : ∀ (W X : List Us) (o : Option ByteArray), IsOpen P X o → IsOpen P (X ++ W) (W.foldl (openStep P) o) := by
    intro W
    induction W with
    | nil => intro X o h; rw [List.append_nil]; exact h
    | cons u W ih =>
      intro X o h
      have := ih (X ++ [u]) _ (isOpen_step h u)
      rw [List.append_assoc] at this
      exact this
  have := h W [] none (fun u hu => by cases hu)
  simpa [openP] using this
theorem openP_eq {P : PM} {W W' : List Us} (hW : ∀ u, u ∈ W ↔ u ∈ W') : openP P W = openP P W' := isOpen_det hW (isOpen_P P W) (isOpen_P P W')
theorem satP_eq {P : PM} {W W' : List Us} (hW : ∀ u, u ∈ W ↔ u ∈ W') : satP W P = satP W' P := by
  have h : ∀ {W W' : List Us}, (∀ u, u ∈ W ↔ u ∈ W') → satP W P = true → satP W' P = true := fun {W W'} hW h => by
    unfold satP at *
    rw [List.all_eq_true] at *
    exact fun u hu => h u ((hW u).2 hu)
  cases h1 : satP W P
  · cases h2 : satP W' P
    · rfl
    · rw [h (fun u => (hW u).symm) h2] at h1; cases h1
  · rw [h hW h1]
theorem openP_not {P : PM} {W : List Us} {n : ByteArray} (h : openP P W = some n) : n ∉ P.map (·.1) ∧ ∃ u ∈ W, u.name = n := by
  have := isOpen_P P W
  rw [h] at this
  exact ⟨this.2.1, this.1⟩
def outOf (R : PM) (ns : List ByteArray) : List Pk := ns.map fun n => ⟨n, ((gget n R).map Md.version).getD 0⟩
def outL (R : PM) : List Pk := outOf R (sortB (R.map (·.1)))
noncomputable def bestV (l : List Md) (root : List Us) (fs : List Pk) : List Pk × Int :=
  bif decide (checkE l = 0) then (bif decide (wantsE root = 0) then (match compl l fs root (l.length + 1) [] with | none => ([], 22) | some R => (outL R, 0)) else ([], wantsE root)) else ([], checkE l)
theorem out_snoc {R : PM} {ns : List ByteArray} {k : Nat} {n : ByteArray} (h : ns[k]? = some n) : outOf R (ns.take (k + 1)) = outOf R (ns.take k) ++ [⟨n, ((gget n R).map Md.version).getD 0⟩] := by
  obtain ⟨h1, rfl⟩ := List.getElem?_eq_some_iff.1 h
  unfold outOf
  rw [List.take_succ_eq_append_getElem h1, List.map_append]
  rfl
theorem out_len (R : PM) (ns : List ByteArray) : (outOf R ns).length = ns.length := by simp [outOf]
/-- what a good register and good wants are -/
structure Rg1 (l : List Md) : Prop where
  len : l.length ≤ 30
  mods : ∀ m ∈ l, (1 ≤ m.version ∧ m.version ≤ 9999) ∧ m.uses.length ≤ 5 ∧ (∀ u ∈ m.uses, useE u = 0) ∧ nameOk m.name.data.toList = true
  ord : l.Pairwise fun a b => mordB a b = true
theorem modE_name {m : Md} (h : modE m = 0) : nameOk m.name.data.toList = true := by
  unfold modE at h
  split at h
  · assumption
  · cases h
theorem checkE_rg {l : List Md} (h : checkE l = 0) : Rg1 l := by
  unfold checkE at h
  split at h
  · cases h
  · next hl =>
    obtain ⟨h1, h2⟩ := modsE_all h
    refine ⟨by omega, fun m hm => ?_, ord_pair h2⟩
    obtain ⟨h3, h4⟩ := modE_ok (h1 m hm)
    obtain ⟨h5, h6⟩ := wantsE_ok h4
    exact ⟨h3, h5, h6, modE_name (h1 m hm)⟩
theorem compl_vp {l : List Md} {fs : List Pk} {root : List Us} : ∀ {k : Nat} {P R : PM}, VP l P → compl l fs root k P = some R → VP l R
  | 0, _, _, _, h => by cases h
  | k + 1, P, R, hP, h => by
    rw [compl] at h
    cases ho : openP P (wantsP root P) with
    | none =>
      rw [ho] at h
      cases h
      exact hP
    | some n =>
      rw [ho] at h
      obtain ⟨m, hm, hf⟩ := List.exists_of_findSome?_eq_some h
      cases hs : satP (wantsP root (P ++ [(n, m)])) (P ++ [(n, m)])
      · rw [hs] at hf; cases hf
      · rw [hs] at hf
        exact compl_vp (hP.add (openP_not ho).1 (cand_mem hm)) hf
theorem wantsP_len {l : List Md} (hl : Rg1 l) {root : List Us} (hr : root.length ≤ 5) {P : PM} (hP : VP l P) : (wantsP root P).length ≤ 155 := by
  have h1 := hP.len
  have h2 := hl.len
  have h3 : ∀ Q : PM, (∀ p ∈ Q, p.2 ∈ l) → (Q.flatMap (fun p => p.2.uses)).length ≤ 5 * Q.length := by
    intro Q
    induction Q with
    | nil => intro _; simp
    | cons q Q ih =>
      intro h
      have h4 := ih fun p hp => h p (by simp [hp])
      have h5 := (hl.mods q.2 (h q (by simp))).2.1
      rw [List.flatMap_cons, List.length_append, List.length_cons]
      omega
  have := h3 P fun p hp => (hP.mem p hp).1
  unfold wantsP
  rw [List.length_append]
  omega
end Go.Proofs.Ytnkafjkcjpajgaa
