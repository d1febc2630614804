/-
  Texts of this proof, part 6: Tka Ab20 Ab21 Ab22 Ab23 Ab24 Ab29 Tkb Tkb2.
-/
import Derived.Test.YtllgibfmddihgaaQSolveRight5
import Derived.Laws.Strings2
import Derived.Lib.AppendStr
import Derived.Lib.MinMax
import Derived.Sort.Walk0
namespace Go.Proofs.Ytllgibfmddihgaa
open Go.RowKit
structure Md where
  name : ByteArray
  version : Int
  uses : List Us
def Md.ts : Md → List T
  | ⟨f_name, f_version, f_uses⟩ => [.lit (.string f_name), .lit (.int .i64 f_version), Us.row f_uses]
theorem Md.ts_len (x : Md) : x.ts.length = 3 := by simp [Md.ts]
def Md.t (x : Md) : T := .agg x.ts
def Md.row (l : List Md) : T := .row l.length 3 (l.flatMap Md.ts)
theorem Md.at {l : List Md} {k : Nat} {x : Md} (h : l[k]? = some x) : ((l.flatMap Md.ts).drop (k * 3)).take 3 = x.ts := flat_at Md.ts 3 Md.ts_len h
def Md.size : Md → Nat
  | ⟨f_name, _, f_uses⟩ => f_name.size + Us.sizes f_uses + 1
def Md.sizes (l : List Md) : Nat := (l.map Md.size).sum
theorem Md.size_mem {x : Md} {l : List Md} (h : x ∈ l) : x.size ≤ Md.sizes l := sum_mem' Md.size h
theorem Md.len_sizes (l : List Md) : l.length ≤ Md.sizes l := len_sum' Md.size (fun x => by simp only [Md.size]; omega) l
instance : Inhabited Md := ⟨⟨⟨#[]⟩, 0, []⟩⟩
structure Pk where
  name : ByteArray
  version : Int
def Pk.ts : Pk → List T
  | ⟨f_name, f_version⟩ => [.lit (.string f_name), .lit (.int .i64 f_version)]
theorem Pk.ts_len (x : Pk) : x.ts.length = 2 := by simp [Pk.ts]
def Pk.t (x : Pk) : T := .agg x.ts
def Pk.row (l : List Pk) : T := .row l.length 2 (l.flatMap Pk.ts)
theorem Pk.at {l : List Pk} {k : Nat} {x : Pk} (h : l[k]? = some x) : ((l.flatMap Pk.ts).drop (k * 2)).take 2 = x.ts := flat_at Pk.ts 2 Pk.ts_len h
def Pk.size : Pk → Nat
  | ⟨f_name, _⟩ => f_name.size + 1
def Pk.sizes (l : List Pk) : Nat := (l.map Pk.size).sum
theorem Pk.size_mem {x : Pk} {l : List Pk} (h : x ∈ l) : x.size ≤ Pk.sizes l := sum_mem' Pk.size h
theorem Pk.len_sizes (l : List Pk) : l.length ≤ Pk.sizes l := len_sum' Pk.size (fun x => by simp only [Pk.size]; omega) l
instance : Inhabited Pk := ⟨⟨⟨#[]⟩, 0⟩⟩
noncomputable def useE (u : Us) : Int := if nameOk u.name.data.toList then (if u.low < 1 ∨ 9999 < u.high ∨ u.high < u.low then 1 else 0) else 11
noncomputable def usesE : List Us → Int
  | [] => 0
  | u :: r => if useE u = 0 then usesE r else useE u
noncomputable def wantsE (l : List Us) : Int := if 5 < l.length then 2 else usesE l
noncomputable def modE (m : Md) : Int := if nameOk m.name.data.toList then (if m.version < 1 ∨ 9999 < m.version then 1 else wantsE m.uses) else 11
def mordB (p m : Md) : Bool := strLt p.name m.name || (decide (p.name = m.name) && decide (p.version < m.version))
def ordE (p : Option Md) (m : Md) : Int := match p with | some q => if mordB q m then 0 else 21 | none => 0
noncomputable def modsE (p : Option Md) : List Md → Int
  | [] => 0
  | m :: r => if modE m = 0 then (if ordE p m = 0 then modsE (some m) r else ordE p m) else modE m
noncomputable def checkE (l : List Md) : Int := if 30 < l.length then 2 else modsE none l
def prevAt {α : Type} (l : List α) (k : Nat) : Option α := if k = 0 then none else l[k - 1]?
theorem prevAt_succ {α : Type} {l : List α} {k : Nat} {a : α} (h : l[k]? = some a) : prevAt l (k + 1) = some a := by simp [prevAt, h]
theorem usesE_step {l : List Us} {k : Nat} {u : Us} (h : l[k]? = some u) : usesE (l.drop k) = if useE u = 0 then usesE (l.drop (k + 1)) else useE u := by
  obtain ⟨h1, rfl⟩ := List.getElem?_eq_some_iff.1 h
  rw [List.drop_eq_getElem_cons h1, usesE]
theorem modsE_step {l : List Md} {k : Nat} {m : Md} (h : l[k]? = some m) : modsE (prevAt l k) (l.drop k) = if modE m = 0 then (if ordE (prevAt l k) m = 0 then modsE (prevAt l (k + 1)) (l.drop (k + 1)) else ordE (prevAt l k) m) else modE m := by
  rw [prevAt_succ h]
  obtain ⟨h1, rfl⟩ := List.getElem?_eq_some_iff.1 h
  rw [List.drop_eq_getElem_cons h1, modsE]
theorem usesE_all : ∀ {l : List Us}, usesE l = 0 → ∀ u ∈ l, useE u = 0
  | [], _, _, h => by simp at h
  | u :: r, h, v, hv => by
    rw [usesE] at h
    by_cases h0 : useE u = 0
    · rw [if_pos h0] at h
      rcases List.mem_cons.1 hv with rfl | hv
      · exact h0
      · exact usesE_all h v hv
    · rw [if_neg h0] at h; exact absurd h h0
theorem wantsE_ok {l : List Us} (h : wantsE l = 0) : l.length ≤ 5 ∧ ∀ u ∈ l, useE u = 0 := by
  unfold wantsE at h
  by_cases h5 : 5 < l.length
  · rw [if_pos h5] at h; cases h
  · rw [if_neg h5] at h; exact ⟨by omega, usesE_all h⟩
theorem useE_low {u : Us} (h : useE u = 0) : 1 ≤ u.low := by
  unfold useE at h
  split at h
  · split at h
    · cases h
    · omega
  · cases h
theorem useE_name {u : Us} (h : useE u = 0) : u.name ≠ ⟨#[]⟩ := by
  rintro e
  unfold useE at h
  rw [e] at h
  rw [show nameOk (ByteArray.mk #[]).data.toList = false from nameOk_nil] at h
  simp at h
theorem modE_ok {m : Md} (h : modE m = 0) : (1 ≤ m.version ∧ m.version ≤ 9999) ∧ wantsE m.uses = 0 := by
  unfold modE at h
  split at h
  · split at h
    · cases h
    · exact ⟨by omega, h⟩
  · cases h
/-- each register entry comes behind all before it -/
theorem strLt_irrefl (s : ByteArray) : strLt s s = false := by
  unfold strLt
  generalize s.toList = l
  induction l with
  | nil => rfl
  | cons a l ih => simp [Op.bytesLess, ih]
theorem modsE_all : ∀ {l : List Md} {p : Option Md}, modsE p l = 0 → (∀ m ∈ l, modE m = 0) ∧ ∀ i (h : i + 1 < l.length), mordB l[i] l[i + 1] = true
  | [], _, _ => ⟨fun _ h => by simp at h, fun _ h => by simp at h⟩
  | m :: r, p, h => by
    rw [modsE] at h
    by_cases h0 : modE m = 0
    · rw [if_pos h0] at h
      have hr : modsE (some m) r = 0 := by
        split at h
        · exact h
        · rename_i hx; exact absurd h hx
      obtain ⟨h1, h2⟩ := modsE_all hr
      refine ⟨fun x hx => ?_, fun i hi => ?_⟩
      · rcases List.mem_cons.1 hx with rfl | hx
        · exact h0
        · exact h1 x hx
      · cases i with
        | succ i => exact h2 i (by simpa using hi)
        | zero =>
          cases r with
          | nil => simp at hi
          | cons x r =>
            rw [modsE] at hr
            split at hr
            · split at hr
              · rename_i _ hx
                unfold ordE at hx
                simp only at hx
                split at hx
                · assumption
                · cases hx
              · rename_i hx; exact absurd hr hx
            · rename_i hx; exact absurd hr hx
    · rw [if_neg h0] at h; exact absurd h h0
theorem lt_eq (a b : ByteArray) : strLt a b = decide (a.toList < b.toList) := bytesLess_eq _ _
theorem ba_ext {a b : ByteArray} (h : a.toList = b.toList) : a = b := by
  have h2 : a.data.toList = b.data.toList := by
    rwa [str_toList, str_toList] at h
  cases a; cases b
  simp only [ByteArray.mk.injEq]
  exact Array.ext' h2
theorem strLt_trans {a b c : ByteArray} (h : strLt a b = true) (h' : strLt b c = true) : strLt a c = true := by
  rw [lt_eq, decide_eq_true_eq] at h h' ⊢
  exact List.lt_trans h h'
theorem mordB_trans {a b c : Md} (h : mordB a b = true) (h' : mordB b c = true) : mordB a c = true := by
  simp only [mordB, Bool.or_eq_true, Bool.and_eq_true, decide_eq_true_eq] at h h' ⊢
  rcases h with h | ⟨h1, h2⟩
  · rcases h' with h' | ⟨h3, _⟩
    · exact .inl (strLt_trans h h')
    · rw [h3] at h; exact .inl h
  · rcases h' with h' | ⟨h3, h4⟩
    · rw [← h1] at h'; exact .inl h'
    · exact .inr ⟨h1.trans h3, by omega⟩
theorem mordB_irrefl {a b : Md} (h : mordB a b = true) : ¬ (b.name = a.name ∧ b.version = a.version) := by
  rintro ⟨h1, h2⟩
  simp only [mordB, Bool.or_eq_true, Bool.and_eq_true, decide_eq_true_eq, h1, strLt_irrefl] at h
  rcases h with h | ⟨_, h⟩
  · cases h
  · omega
theorem ord_pair {l : List Md} (h : ∀ i (h : i + 1 < l.length), mordB l[i] l[i + 1] = true) : l.Pairwise (fun a b => mordB a b = true) := by
  induction l with
  | nil => exact .nil
  | cons a l ih =>
    have hl : ∀ i (h : i + 1 < l.length), mordB l[i] l[i + 1] = true := fun i hi => h (i + 1) (by simpa using hi)
    have hp := ih hl
    refine .cons (fun b hb => ?_) hp
    cases l with
    | nil => simp at hb
    | cons x l =>
      have h0 : mordB a x = true := h 0 (by simp)
      rcases List.mem_cons.1 hb with rfl | hb
      · exact h0
      · exact mordB_trans h0 ((List.pairwise_cons.1 hp).1 b hb)
def hitB (nm : ByteArray) (v : Int) (m : Md) : Bool := decide (m.name = nm) && decide (m.version = v)
theorem hit_one {nm : ByteArray} {v : Int} {l : List Md} (h : l.Pairwise (fun a b => mordB a b = true)) : l.filter (hitB nm v) = (match l.find? (hitB nm v) with | none => [] | some m => [m]) := by
  induction l with
  | nil => rfl
  | cons a l ih =>
    obtain ⟨h1, h2⟩ := List.pairwise_cons.1 h
    cases hh : hitB nm v a with
    | false => rw [List.filter_cons_of_neg (by rw [hh]; simp), List.find?_cons_of_neg (by rw [hh]; simp)]; exact ih h2
    | true =>
      rw [List.filter_cons_of_pos hh, List.find?_cons_of_pos hh]
      simp only [List.cons.injEq, true_and]
      rw [List.filter_eq_nil_iff]
      intro b hb hb2
      have h3 := mordB_irrefl (h1 b hb)
      simp only [hitB, Bool.and_eq_true, decide_eq_true_eq] at hh hb2
      exact h3 ⟨hb2.1.trans hh.1.symm, hb2.2.trans hh.2.symm⟩
def pv (ps : List Pk) (nm : ByteArray) : Option Int := (ps.find? fun p => decide (p.name = nm)).map Pk.version
def usOf (l : List Md) (nm : ByteArray) (v : Int) : Option (List Us) := (l.find? (hitB nm v)).map Md.uses
def okU (l : List Md) (ps : List Pk) (u : Us) : Option (List Us) :=
  match pv ps u.name with
  | none => none
  | some v => if v < u.low ∨ u.high < v then none else usOf l u.name v
inductive Runs (l : List Md) (ps : List Pk) : List Us → List ByteArray → Option (List ByteArray) → Prop where
  | done (R : List ByteArray) : Runs l ps [] R (some R)
  | bad {u : Us} {q : List Us} {R : List ByteArray} (h : okU l ps u = none) : Runs l ps (u :: q) R none
  | old {u : Us} {q : List Us} {R : List ByteArray} {r : Option (List ByteArray)} {us : List Us} (h : okU l ps u = some us) (hm : u.name ∈ R) (hr : Runs l ps q R r) : Runs l ps (u :: q) R r
  | new {u : Us} {q : List Us} {R : List ByteArray} {r : Option (List ByteArray)} {us : List Us} (h : okU l ps u = some us) (hm : u.name ∉ R) (hr : Runs l ps (q ++ us) (R ++ [u.name]) r) : Runs l ps (u :: q) R r
theorem Runs.det {l : List Md} {ps : List Pk} {q : List Us} {R : List ByteArray} {r r' : Option (List ByteArray)} (h : Runs l ps q R r) (h' : Runs l ps q R r') : r = r' := by
  induction h with
  | done R => cases h'; rfl
  | bad h =>
    cases h' with
    | bad _ => rfl
    | old h2 _ _ => rw [h] at h2; cases h2
    | new h2 _ _ => rw [h] at h2; cases h2
  | old h hm hr ih =>
    cases h' with
    | bad h2 => rw [h] at h2; cases h2
    | old h2 _ h3 => exact ih h3
    | new _ h2 _ => exact absurd hm h2
  | new h hm hr ih =>
    cases h' with
    | bad h2 => rw [h] at h2; cases h2
    | old _ h2 _ => exact absurd h2 hm
    | new h2 _ h3 =>
      rw [h] at h2
      injection h2 with h2
      subst h2
      exact ih h3
theorem pv_mem {ps : List Pk} {nm : ByteArray} {v : Int} (h : pv ps nm = some v) : nm ∈ ps.map Pk.name := by
  unfold pv at h
  cases hf : ps.find? (fun p => decide (p.name = nm)) with
  | none => rw [hf] at h; cases h
  | some p =>
    have h1 := List.find?_some hf
    have h2 := List.mem_of_find?_eq_some hf
    simp at h1
    exact List.mem_map.2 ⟨p, h2, h1⟩
theorem usOf_mem {l : List Md} {nm : ByteArray} {v : Int} {us : List Us} (h : usOf l nm v = some us) : ∃ m ∈ l, m.name = nm ∧ m.version = v ∧ m.uses = us := by
  unfold usOf at h
  cases hf : l.find? (hitB nm v) with
  | none => rw [hf] at h; cases h
  | some m =>
    rw [hf] at h
    have h1 := List.find?_some hf
    have h2 := List.mem_of_find?_eq_some hf
    simp [hitB] at h1
    exact ⟨m, h2, h1.1, h1.2, by simpa using h⟩
theorem okU_some {l : List Md} {ps : List Pk} {u : Us} {us : List Us} (h : okU l ps u = some us) : ∃ v, pv ps u.name = some v ∧ ¬ (v < u.low ∨ u.high < v) ∧ usOf l u.name v = some us := by
  unfold okU at h
  cases hp : pv ps u.name with
  | none => rw [hp] at h; cases h
  | some v =>
    rw [hp] at h
    simp only at h
    split at h
    · cases h
    · exact ⟨v, rfl, by assumption, h⟩
/-- names met: each once, of the selection, none empty -/
def Met (ps : List Pk) (R : List ByteArray) : Prop := R.Nodup ∧ ∀ nm ∈ R, nm ∈ ps.map Pk.name ∧ nm ≠ ⟨#[]⟩
theorem Runs.met {l : List Md} {ps : List Pk} (hl : ∀ m ∈ l, modE m = 0) {q : List Us} {R : List ByteArray} {r : Option (List ByteArray)} (h : Runs l ps q R r) (hq : ∀ u ∈ q, useE u = 0) (hR : Met ps R) : ∀ R', r = some R' → Met ps R' := by
  induction h with
  | done R => rintro R' e; injection e with e; subst e; exact hR
  | bad _ => rintro _ e; cases e
  | old h hm hr ih => exact ih (fun u hu => hq u (List.mem_cons_of_mem _ hu)) hR
  | @new u q R r us h hm hr ih =>
    obtain ⟨v, h1, _, h3⟩ := okU_some h
    obtain ⟨m, h4, _, _, h5⟩ := usOf_mem h3
    refine ih (fun x hx => ?_) ⟨?_, fun nm hn => ?_⟩
    · rcases List.mem_append.1 hx with hx | hx
      · exact hq x (List.mem_cons_of_mem _ hx)
      · rw [← h5] at hx
        exact (wantsE_ok (modE_ok (hl m h4)).2).2 x hx
    · rw [List.nodup_append]
      refine ⟨hR.1, by simp, fun a ha b hb => ?_⟩
      rw [List.mem_singleton] at hb
      rintro rfl
      rw [hb] at ha
      exact hm ha
    · rcases List.mem_append.1 hn with hn | hn
      · exact hR.2 nm hn
      · rw [List.mem_singleton] at hn
        subst hn
        exact ⟨pv_mem h1, useE_name (hq u (by simp))⟩
def leB (a b : ByteArray) : Bool := strLt a b || decide (a = b)
def ascP : Option Pk → List Pk → Bool
  | _, [] => true
  | none, p :: r => ascP (some p) r
  | some q, p :: r => !leB p.name q.name && ascP (some p) r
def ascR : ByteArray → List Pk → Bool
  | _, [] => true
  | last, p :: r => !leB p.name last && ascR p.name r
theorem ascP_step {l : List Pk} {k : Nat} {p q : Pk} (h : l[k]? = some p) (hq : prevAt l k = some q) : ascP (prevAt l k) (l.drop k) = (!leB p.name q.name && ascP (prevAt l (k + 1)) (l.drop (k + 1))) := by
  rw [prevAt_succ h, hq]
  obtain ⟨h1, rfl⟩ := List.getElem?_eq_some_iff.1 h
  rw [List.drop_eq_getElem_cons h1, ascP]
def lastOf (l : List Pk) (k : Nat) : ByteArray := match prevAt l k with | none => ⟨#[]⟩ | some p => p.name
theorem lastOf_succ {l : List Pk} {k : Nat} {p : Pk} (h : l[k]? = some p) : lastOf l (k + 1) = p.name := by simp [lastOf, prevAt_succ h]
theorem ascR_step {l : List Pk} {k : Nat} {p : Pk} (h : l[k]? = some p) : ascR (lastOf l k) (l.drop k) = (!leB p.name (lastOf l k) && ascR (lastOf l (k + 1)) (l.drop (k + 1))) := by
  rw [lastOf_succ h]
  obtain ⟨h1, rfl⟩ := List.getElem?_eq_some_iff.1 h
  rw [List.drop_eq_getElem_cons h1, ascR]
theorem leB_nil {s : ByteArray} : leB s ⟨#[]⟩ = decide (s = ⟨#[]⟩) := by
  have : strLt s ⟨#[]⟩ = false := by
    rw [lt_eq]
    have : (ByteArray.mk #[]).toList = [] := by rw [str_toList]
    rw [this]
    simp
  simp [leB, this]
theorem asc_same : ∀ (l : List Pk) (q : Pk), ascP (some q) l = ascR q.name l
  | [], _ => rfl
  | p :: r, q => by rw [ascP, ascR, asc_same r p]
theorem asc_head (p : Pk) (r : List Pk) : ascR ⟨#[]⟩ (p :: r) = (!decide (p.name = ⟨#[]⟩) && ascP none (p :: r)) := by rw [ascR, ascP, leB_nil, asc_same]
theorem leB_false {a b : ByteArray} (h : leB a b = false) : strLt b a = true := by
  simp only [leB, Bool.or_eq_false_iff, decide_eq_false_iff_not] at h
  rw [lt_eq, decide_eq_false_iff_not] at h
  rw [lt_eq, decide_eq_true_eq]
  have h2 : b.toList ≤ a.toList := Std.not_lt.1 h.1
  rcases Std.le_iff_lt_or_eq.1 h2 with h1 | h1
  · exact h1
  · exact absurd (ba_ext h1.symm) h.2
theorem ascR_all : ∀ {l : List Pk} {last : ByteArray}, ascR last l = true → (∀ p ∈ l, strLt last p.name = true) ∧ l.Pairwise (fun a b => strLt a.name b.name = true)
  | [], _, _ => ⟨fun _ h => by simp at h, .nil⟩
  | p :: r, last, h => by
    simp only [ascR, Bool.and_eq_true, Bool.not_eq_true'] at h
    obtain ⟨h1, h2⟩ := ascR_all h.2
    have h3 := leB_false h.1
    refine ⟨fun x hx => ?_, .cons h1 h2⟩
    rcases List.mem_cons.1 hx with rfl | hx
    · exact h3
    · exact strLt_trans h3 (h1 x hx)
/-- the selection by names, asq the reference keeps it -/
def byNm (ps : List Pk) : List (ByteArray × T) := ps.foldl (fun m p => mput p.name (.lit (.int .i64 p.version)) m) []
theorem byNm_get {ps : List Pk} (h : ps.Pairwise (fun a b => strLt a.name b.name = true)) (nm : ByteArray) : ∀ m, mget nm (ps.foldl (fun m p => mput p.name (.lit (.int .i64 p.version)) m) m) = (match pv ps nm with | some v => some (.lit (.int .i64 v)) | none => mget nm m) := by
  induction ps with
  | nil => intro m; rfl
  | cons p r ih =>
    intro m
    obtain ⟨h1, h2⟩ := List.pairwise_cons.1 h
    rw [List.foldl_cons, ih h2, mget_put]
    by_cases hn : p.name = nm
    · have hr : pv r nm = none := by
        unfold pv
        rw [Option.map_eq_none_iff, List.find?_eq_none]
        intro x hx hxn
        have := h1 x hx
        simp at hxn
        rw [hn, hxn, strLt_irrefl] at this
        cases this
      rw [hr]
      simp [pv, hn]
    · have : pv (p :: r) nm = pv r nm := by simp [pv, hn]
      rw [this]
      simp [Ne.symm hn]
theorem byNm_at {ps : List Pk} (h : ps.Pairwise (fun a b => strLt a.name b.name = true)) (nm : ByteArray) : (mget nm (byNm ps)).getD (.lit (.int .i64 0)) = .lit (.int .i64 ((pv ps nm).getD 0)) := by
  unfold byNm
  rw [byNm_get h]
  cases pv ps nm <;> rfl
/-- the names met, asq a map -/
def mets (R : List ByteArray) : List (ByteArray × T) := R.map fun n => (n, .lit (.bool true))
theorem mets_in {R : List ByteArray} {nm : ByteArray} (h : nm ∈ R) : mget nm (mets R) = some (.lit (.bool true)) := by
  induction R with
  | nil => simp at h
  | cons a R ih =>
    have : mets (a :: R) = (a, .lit (.bool true)) :: mets R := rfl
    rw [this, mget]
    by_cases hn : nm = a
    · simp [hn]
    · simp only [hn, if_false]
      exact ih (by simpa [hn] using h)
theorem mets_out {R : List ByteArray} {nm : ByteArray} (h : nm ∉ R) : mget nm (mets R) = none := by
  induction R with
  | nil => rfl
  | cons a R ih =>
    have : mets (a :: R) = (a, .lit (.bool true)) :: mets R := rfl
    have hn : nm ≠ a := fun e => h (by simp [e])
    rw [this, mget]
    simp only [hn, if_false]
    exact ih (fun e => h (List.mem_cons_of_mem _ e))
theorem mets_put {R : List ByteArray} {nm : ByteArray} (h : nm ∉ R) : mput nm (.lit (.bool true)) (mets R) = mets (R ++ [nm]) := by
  induction R with
  | nil => rfl
  | cons a R ih =>
    have h1 : nm ≠ a := fun e => h (by simp [e])
    have h2 : nm ∉ R := fun e => h (by simp [e])
    have : mets (a :: R) = (a, .lit (.bool true)) :: mets R := rfl
    rw [this, mput]
    simp only [h1, if_false, ih h2]
    rfl
theorem mets_len (R : List ByteArray) : (mets R).length = R.length := by simp [mets]
theorem byNm_snoc {ps : List Pk} {k : Nat} {p : Pk} (h : ps[k]? = some p) : byNm (ps.take (k + 1)) = mput p.name (.lit (.int .i64 p.version)) (byNm (ps.take k)) := by
  obtain ⟨h1, rfl⟩ := List.getElem?_eq_some_iff.1 h
  rw [List.take_succ_eq_append_getElem h1]
  simp only [byNm, List.foldl_append]
  rfl
/-- modules whose names are not met yet -/
noncomputable def left (l : List Md) (R : List ByteArray) : Nat := by classical exact (l.filter fun m => decide (m.name ∉ R)).length
theorem left_le (l : List Md) (R : List ByteArray) : left l R ≤ l.length := List.length_filter_le _ _
theorem left_new {l : List Md} {R : List ByteArray} {nm : ByteArray} {m : Md} (hm : m ∈ l) (hn : m.name = nm) (h : nm ∉ R) : left l (R ++ [nm]) < left l R := by
  classical
  unfold left
  induction l with
  | nil => simp at hm
  | cons a l ih =>
    have hle : ∀ l : List Md, (l.filter fun m => decide (m.name ∉ R ++ [nm])).length ≤ (l.filter fun m => decide (m.name ∉ R)).length := by
      intro l
      induction l with
      | nil => simp
      | cons x l ih2 =>
        by_cases h1 : x.name ∈ R
        · rw [List.filter_cons_of_neg (by simp [h1]), List.filter_cons_of_neg (by simp [h1])]; exact ih2
        · rw [List.filter_cons_of_pos (p := fun m : Md => decide (m.name ∉ R)) (by simp [h1])]
          by_cases h2 : x.name = nm
          · rw [List.filter_cons_of_neg (by simp [h2]), List.length_cons]; omega
          · rw [List.filter_cons_of_pos (by simp [h1, h2]), List.length_cons, List.length_cons]; omega
    rcases List.mem_cons.1 hm with rfl | hm
    · have := hle l
      rw [List.filter_cons_of_neg (by simp [hn]), List.filter_cons_of_pos (by simpa [hn] using h), List.length_cons]
      omega
    · have := ih hm
      by_cases h1 : a.name ∈ R
      · rw [List.filter_cons_of_neg (by simp [h1]), List.filter_cons_of_neg (by simp [h1])]; exact this
      · rw [List.filter_cons_of_pos (p := fun m : Md => decide (m.name ∉ R)) (by simp [h1])]
        by_cases h2 : a.name = nm
        · rw [List.filter_cons_of_neg (by simp [h2]), List.length_cons]; omega
        · rw [List.filter_cons_of_pos (by simp [h1, h2]), List.length_cons, List.length_cons]; omega
theorem sub_len {α : Type} [DecidableEq α] : ∀ {R l : List α}, R.Nodup → R ⊆ l → R.length ≤ l.length
  | [], _, _, _ => Nat.zero_le _
  | a :: R, l, hn, hs => by
    obtain ⟨h1, h2⟩ := List.nodup_cons.1 hn
    have ha : a ∈ l := hs (by simp)
    have h3 : R ⊆ l.erase a := fun x hx => (List.mem_erase_of_ne (fun e => h1 (by rw [← e]; exact hx))).2 (hs (List.mem_cons_of_mem _ hx))
    have h4 := sub_len h2 h3
    rw [List.length_erase_of_mem ha] at h4
    have := List.length_pos_of_mem ha
    simp only [List.length_cons]
    omega
def runOut (ps : List Pk) (r : Option (List ByteArray)) : Bool := match r with | none => false | some R => decide (R.length = ps.length)
/-- what both answer -/
def RightIs (l : List Md) (root : List Us) (ps : List Pk) (b : Bool) : Prop :=
  ((checkE l ≠ 0 ∨ wantsE root ≠ 0 ∨ ascR ⟨#[]⟩ ps = false) ∧ b = false) ∨
  (checkE l = 0 ∧ wantsE root = 0 ∧ ascR ⟨#[]⟩ ps = true ∧ ∃ r, Runs l ps root [] r ∧ b = runOut ps r)
theorem RightIs.det {l : List Md} {root : List Us} {ps : List Pk} {b b' : Bool} (h : RightIs l root ps b) (h' : RightIs l root ps b') : b = b' := by
  rcases h with ⟨h1, rfl⟩ | ⟨h1, h2, h3, r, h4, rfl⟩
  · rcases h' with ⟨_, rfl⟩ | ⟨g1, g2, g3, _⟩
    · rfl
    · rcases h1 with h1 | h1 | h1
      · exact absurd g1 h1
      · exact absurd g2 h1
      · rw [g3] at h1; cases h1
  · rcases h' with ⟨g1, rfl⟩ | ⟨g1, g2, g3, r', h5, rfl⟩
    · rcases g1 with g1 | g1 | g1
      · exact absurd h1 g1
      · exact absurd h2 g1
      · rw [h3] at g1; cases g1
    · rw [h4.det h5]
theorem checkE_ok {l : List Md} (h : checkE l = 0) : l.length ≤ 30 ∧ (∀ m ∈ l, modE m = 0) ∧ l.Pairwise (fun a b => mordB a b = true) := by
  unfold checkE at h
  by_cases h3 : 30 < l.length
  · rw [if_pos h3] at h; cases h
  · rw [if_neg h3] at h
    obtain ⟨h1, h2⟩ := modsE_all h
    exact ⟨by omega, h1, ord_pair h2⟩
/-- the program's order of names lets an empty name through, but nothing wants it -/
theorem rightIs_of {l : List Md} {root : List Us} {ps : List Pk} (hl : checkE l = 0) (hw : wantsE root = 0) (ha : ascP none ps = true) {r : Option (List ByteArray)} (hr : Runs l ps root [] r) : RightIs l root ps (runOut ps r) := by
  cases hR : ascR ⟨#[]⟩ ps with
  | true => exact .inr ⟨hl, hw, hR, r, hr, rfl⟩
  | false =>
    refine .inl ⟨.inr (.inr hR), ?_⟩
    cases r with
    | none => rfl
    | some R =>
      have hm := Runs.met (checkE_ok hl).2.1 hr (wantsE_ok hw).2 ⟨.nil, fun _ h => by simp at h⟩ R rfl
      cases ps with
      | nil => cases hR
      | cons p ps =>
        rw [asc_head, ha] at hR
        have hp : p.name = ⟨#[]⟩ := by simpa using hR
        simp only [runOut, decide_eq_false_iff_not]
        intro he
        have hsub : R ⊆ ps.map Pk.name := by
          intro nm hn
          obtain ⟨h1, h2⟩ := hm.2 nm hn
          rw [List.map_cons, List.mem_cons] at h1
          rcases h1 with h1 | h1
          · rw [hp] at h1; exact absurd h1 h2
          · exact h1
        have hlen := sub_len hm.1 hsub
        simp at hlen he
        omega
end Go.Proofs.Ytllgibfmddihgaa
namespace Go.Proofs.Ytllgibfmddihgaa
open Go.RowKit
theorem HeapOk.take {F : Frm} {M : Mm} {hp : List Blk} {w : World} (h : HeapOk F M hp w) (k : Nat) : HeapOk F M (hp.take k) w := by
  have hg : ∀ (i : Nat) (x : Blk), (hp.take k)[i]? = some x → hp[i]? = some x := by
    intro i x hx
    rw [List.getElem?_take] at hx
    split at hx
    · exact hx
    · cases hx
  exact ⟨h.mem, h.ext, h.frm, fun i x hx => h.at_ i x (hg i x hx), fun i j x y b hx hy => h.sep i j x y b (hg i x hx) (hg j y hy), fun i x b hx => h.out i x b (hg i x hx)⟩
/-- the function, given values that read so and blocks of the caller's own, returns a value that reads so, the blocks turned -/
def AG (P : Program) (f : FuncId) (asq : List AV) (hs : List Blk) (R : AV → List Blk → Prop) : Prop :=
  Enters P f ∧ ∀ (F : Frm) (M : Mm) (w : World) (vs : List Value), HeapOk F M hs w → RAs M asq vs →
    Calls P f vs.toArray w fun e w' => ∃ v r hs' M', e = .returned v ∧ R r hs' ∧ Ext F.may M M' ∧ HeapOk F M' hs' w' ∧ RA M' r v
theorem AG.imp {P : Program} {f : FuncId} {asq : List AV} {hs : List Blk} {R R' : AV → List Blk → Prop} (h : AG P f asq hs R) (hi : ∀ r hs, R r hs → R' r hs) : AG P f asq hs R' :=
  ⟨h.1, fun F M w vs hM hv => (h.2 F M w vs hM hv).mono fun _ _ ⟨v, r, hs', M', h1, h2, h3⟩ => ⟨v, r, hs', M', h1, hi r hs' h2, h3⟩⟩
/-- the end of such a function: the first k blocks are handed back -/
structure FinG (L : Tab) (res : List ResultVar) (k : Nat) (R : AV → List Blk → Prop) (e : Exit) (σ : AS) : Prop where
  out : (e = .normal ∨ e = .ret) ∧ ∃ vs, OutsA L σ res vs ∧ R (outA vs) (σ.hp.take k)
section
variable {P : Program} {F : Frm} {L : Tab}
theorem ag_enter {f : FuncId} {fn : Func} {c : Code} {asq : List AV} {hs : List Blk} {R : AV → List Blk → Prop} {N : Nat} {res : List ResultVar} (k : Nat) (hL : TabOk P L) (hf : P.funcs[f]? = some fn) (hNt : fn.ntmps = N) (hres : fn.results = res.toArray) (hb : fn.body = some c) (hn : (fn.name == "runtime.NumGoroutine") = false) (hN : Nat.ble asq.length N = true)
    (h : ∀ F, AC P F c (FinG L res k R) ⟨initT N asq, hs, N⟩) : AG P f asq hs R := by
  refine ⟨⟨fn, hf, hn, by rw [hb]; rfl⟩, fun F M w vs hh hav => ?_⟩
  have hlen := hav.len
  have hNl := Nat.le_of_ble_eq_true hN
  refine calls_of_wp hf hb (wp_mono ((h ⟨F.w0, F.X, M, hh.glob⟩).out M _ w ⟨?_, ?_, rfl, ⟨hh.mem, Ext.refl _ _, ⟨hh.frm.os, hh.frm.tape, hh.frm.output, hh.frm.size, hh.frm.block⟩, hh.at_, hh.sep, hh.out⟩⟩) ?_)
  · intro i
    simp only [initT]
    by_cases hi : i < asq.length
    · have : Nat.blt i N = true := Nat.ble_eq_true_of_le (by omega)
      rw [this, cond_true]
      have h1 : asq[i]? = some asq[i] := List.getElem?_eq_getElem hi
      obtain ⟨x, hx, hra⟩ := hav.get h1
      rw [List.getD_eq_getElem?_getD, h1]
      have h2 : i < vs.length := by omega
      have h3 : vs[i] = x := by rw [List.getElem?_eq_getElem h2] at hx; injection hx
      simp [Array.getD_eq_getD_getElem?, Array.getElem?_append, h2, h3]
      exact hra
    · have h1 : asq.getD i (.c (.lit undef)) = .c (.lit undef) := by
        rw [List.getD_eq_getElem?_getD, List.getElem?_eq_none (by omega)]; rfl
      rw [h1]
      have h2 : ¬ i < vs.length := by omega
      have h3 : (vs.toArray ++ Array.replicate (fn.ntmps - vs.toArray.size) undef).getD i undef = undef := by
        simp [Array.getD_eq_getD_getElem?, Array.getElem?_append, h2, Array.getElem?_replicate]
        split <;> rfl
      rw [h3]
      cases Nat.blt i N <;> simp only [cond_true, cond_false, RA, RT]
  · simp [hNt]; omega
  · rintro e' a' w' ⟨M', σ', ⟨⟨he', vs', ho, hK⟩⟩, hr⟩
    rw [show res = fn.results.toList by rw [hres]] at ho
    obtain ⟨u, hu', hRA⟩ := resultsA_sound hL hr ho
    have hx : Ext F.may M M' := hr.heap.ext
    have hh' : HeapOk F M' σ'.hp w' := ⟨hr.heap.mem, hh.ext.trans hx, ⟨hr.heap.frm.os, hr.heap.frm.tape, hr.heap.frm.output, hr.heap.frm.size, hr.heap.frm.block⟩, hr.heap.at_, hr.heap.sep, hr.heap.out⟩
    have hfin : a'.defers = [] ∧ ∃ v, (results fn a'.tmps).run P w' = .ok v w' ∧ ∃ v' r hs' M', Ending.returned v = .returned v' ∧ R r hs' ∧ Ext F.may M M' ∧ HeapOk F M' hs' w' ∧ RA M' r v' :=
      ⟨hr.defers, u, hu', u, outA vs', σ'.hp.take k, M', rfl, hK, hx, hh'.take k, hRA⟩
    rcases he' with rfl | rfl <;> exact hfin
end
def selB (hp : List Blk) : List Nat → Option (List Blk)
  | [] => some []
  | i :: is => match hp[i]?, selB hp is with | some x, some r => some (x :: r) | _, _ => none
def freshB : List Nat → Bool
  | [] => true
  | i :: is => !is.contains i && freshB is
def putB (hp : List Blk) : List Nat → List Blk → List Blk
  | [], hs => hp ++ hs
  | _ :: _, [] => hp
  | i :: is, x :: hs => (putB hp is hs).set i x
def posB (hp : List Blk) (sel : List Nat) (i : Nat) : Nat := match sel[i]? with | some j => j | none => hp.length + (i - sel.length)
theorem selB_get {hp : List Blk} : ∀ {sel : List Nat} {hs : List Blk}, selB hp sel = some hs → ∀ {i : Nat} {x : Blk}, hs[i]? = some x → ∃ j : Nat, sel[i]? = some j ∧ hp[j]? = some x
  | [], hs, h, i, x, hx => by simp only [selB, Option.some.injEq] at h; subst h; simp at hx
  | k :: is, hs, h, i, x, hx => by
    simp only [selB] at h
    cases h1 : hp[k]? with
    | none => rw [h1] at h; cases h
    | some y =>
      cases h2 : selB hp is with
      | none => rw [h1, h2] at h; cases h
      | some r =>
        rw [h1, h2] at h
        simp only [Option.some.injEq] at h
        subst h
        cases i with
        | zero => simp only [List.getElem?_cons_zero, Option.some.injEq] at hx; subst hx; exact ⟨k, rfl, h1⟩
        | succ i => obtain ⟨j, h3, h4⟩ := selB_get h2 (i := i) (by simpa using hx); exact ⟨j, by simpa using h3, h4⟩
theorem freshB_inj : ∀ {sel : List Nat}, freshB sel = true → ∀ {i i' j : Nat}, sel[i]? = some j → sel[i']? = some j → i = i'
  | [], _, i, i', j, h, _ => by simp at h
  | k :: is, hf, i, i', j, h, h' => by
    simp only [freshB, Bool.and_eq_true, Bool.not_eq_true', List.contains_eq_mem, decide_eq_false_iff_not] at hf
    cases i with
    | zero =>
      simp only [List.getElem?_cons_zero, Option.some.injEq] at h
      cases i' with
      | zero => rfl
      | succ i' => simp only [List.getElem?_cons_succ] at h'; exact absurd (h ▸ List.mem_of_getElem? h') hf.1
    | succ i =>
      simp only [List.getElem?_cons_succ] at h
      cases i' with
      | zero => simp only [List.getElem?_cons_zero, Option.some.injEq] at h'; exact absurd (h' ▸ List.mem_of_getElem? h) hf.1
      | succ i' => simp only [List.getElem?_cons_succ] at h'; rw [freshB_inj hf.2 h h']
theorem putB_get {hp : List Blk} : ∀ {sel : List Nat} {hs : List Blk}, sel.length ≤ hs.length → ∀ {j : Nat} {x : Blk}, (putB hp sel hs)[j]? = some x → (∃ i, j = posB hp sel i ∧ hs[i]? = some x) ∨ (hp[j]? = some x ∧ j ∉ sel)
  | [], hs, _, j, x, h => by
    simp only [putB] at h
    rcases Nat.lt_or_ge j hp.length with hj | hj
    · rw [List.getElem?_append_left hj] at h
      exact .inr ⟨h, by simp⟩
    · rw [List.getElem?_append_right hj] at h
      exact .inl ⟨j - hp.length, by simp only [posB, List.getElem?_nil, List.length_nil]; omega, h⟩
  | k :: is, [], hl, _, _, _ => by simp at hl
  | k :: is, y :: hs, hl, j, x, h => by
    simp only [putB, List.getElem?_set] at h
    split at h
    · rename_i hkj
      subst hkj
      split at h
      · exact .inl ⟨0, rfl, by simpa using h⟩
      · cases h
    · rename_i hkj
      rcases putB_get (by simpa using hl) h with ⟨i, h1, h2⟩ | ⟨h1, h2⟩
      · refine .inl ⟨i + 1, ?_, by simpa using h2⟩
        rw [h1]
        simp only [posB, List.getElem?_cons_succ, List.length_cons]
        split <;> omega
      · exact .inr ⟨h1, by simp [h2, Ne.symm hkj]⟩
def subF (M : Mm) (hG : Glob M) (hs : List Blk) (w : World) : Frm := ⟨w, fun b => ∃ (i : Nat) (x : Blk), hs[i]? = some x ∧ x.blk = some b, M, hG⟩
theorem heap_sel {F : Frm} {M : Mm} {hp hs : List Blk} {w : World} {sel : List Nat} (h : HeapOk F M hp w) (hs' : selB hp sel = some hs) (hf : freshB sel = true) : HeapOk (subF M h.glob hs w) M hs w := by
  refine ⟨h.mem, Ext.refl _ _, ⟨rfl, rfl, rfl, Nat.le_refl _, fun _ _ _ => rfl⟩, fun i x hx => ?_, fun i j x y b hx hy hxb hyb => ?_, fun i x b hx hxb => ?_⟩
  · obtain ⟨j, _, h2⟩ := selB_get hs' hx
    exact h.at_ j x h2
  · obtain ⟨k, h1, h2⟩ := selB_get hs' hx
    obtain ⟨k', h3, h4⟩ := selB_get hs' hy
    have := h.sep k k' x y b h2 h4 hxb hyb
    subst this
    exact freshB_inj hf h1 h3
  · obtain ⟨j, _, h2⟩ := selB_get hs' hx
    exact ⟨.inl ⟨i, x, hx, hxb⟩, (h.out j x b h2 hxb).2⟩
theorem sub_may {F : Frm} {M : Mm} {hp hs : List Blk} {w : World} {sel : List Nat} (h : HeapOk F M hp w) (hs' : selB hp sel = some hs) (b : Nat) (hb : (subF M h.glob hs w).may b) : F.may b := by
  rcases hb with ⟨i, x, hx, hxb⟩ | hb
  · obtain ⟨j, _, h2⟩ := selB_get hs' hx
    exact (h.out j x b h2 hxb).1
  · exact .inr (Nat.le_trans h.frm.size hb)
theorem heap_put {F : Frm} {M M' : Mm} {hp hs hs2 : List Blk} {w w' : World} {sel : List Nat} (h : HeapOk F M hp w) (hsl : selB hp sel = some hs) (hl : sel.length ≤ hs2.length) (h2 : HeapOk (subF M h.glob hs w) M' hs2 w') : HeapOk F M' (putB hp sel hs2) w' := by
  have hM : Ext (subF M h.glob hs w).may M M' := h2.ext
  have hX : ∀ b, (subF M h.glob hs w).X b → ∃ (j : Nat) (x : Blk), j ∈ sel ∧ hp[j]? = some x ∧ x.blk = some b := by
    rintro b ⟨i, x, hx, hb⟩
    obtain ⟨j, h3, h4⟩ := selB_get hsl hx
    exact ⟨j, x, List.mem_of_getElem? h3, h4, hb⟩
  have hold : ∀ (j : Nat) (x : Blk) (b : Nat), hp[j]? = some x → j ∉ sel → x.blk = some b → b < w.heap.size ∧ ¬ (subF M h.glob hs w).X b := by
    intro j x b hx hj hb
    refine ⟨(h.at_ j x hx).lt hb, fun hXb => ?_⟩
    obtain ⟨k, y, hk, hy, hyb⟩ := hX b hXb
    have := h.sep j k x y b hx hy hb hyb
    subst this
    exact hj hk
  refine ⟨h2.mem, h.ext.trans (hM.to (sub_may h hsl)), ⟨h2.frm.os.trans h.frm.os, h2.frm.tape.trans h.frm.tape, h2.frm.output.trans h.frm.output, Nat.le_trans h.frm.size h2.frm.size, fun b hb hnX => ?_⟩, fun j x hx => ?_, fun j k x y b hx hy hxb hyb => ?_, fun j x b hx hxb => ?_⟩
  · refine (h2.frm.block b (Nat.lt_of_lt_of_le hb h.frm.size) fun hXb => ?_).trans (h.frm.block b hb hnX)
    obtain ⟨k, y, _, hy, hyb⟩ := hX b hXb
    rcases (h.out k y b hy hyb).1 with h3 | h3
    · exact hnX h3
    · omega
  · rcases putB_get hl hx with ⟨i, _, hi⟩ | ⟨hj, hns⟩
    · exact h2.at_ i x hi
    · exact (h.at_ j x hj).keep hM.sub fun b hb hlt => h2.frm.block b hlt (hold j x b hj hns hb).2
  · rcases putB_get hl hx with ⟨i, hji, hi⟩ | ⟨hj, hns⟩
    · rcases putB_get hl hy with ⟨i', hji', hi'⟩ | ⟨hk, hns'⟩
      · rw [hji, hji', h2.sep i i' x y b hi hi' hxb hyb]
      · obtain ⟨h3, h4⟩ := hold k y b hk hns' hyb
        rcases (h2.out i x b hi hxb).1 with h5 | h5
        · exact absurd h5 h4
        · have : w.heap.size ≤ b := h5
          omega
    · rcases putB_get hl hy with ⟨i', hji', hi'⟩ | ⟨hk, hns'⟩
      · obtain ⟨h3, h4⟩ := hold j x b hj hns hxb
        rcases (h2.out i' y b hi' hyb).1 with h5 | h5
        · exact absurd h5 h4
        · have : w.heap.size ≤ b := h5
          omega
      · exact h.sep j k x y b hj hk hxb hyb
  · rcases putB_get hl hx with ⟨i, hji, hi⟩ | ⟨hj, hns⟩
    · obtain ⟨h3, h4⟩ := h2.out i x b hi hxb
      refine ⟨?_, h4⟩
      rcases h3 with h5 | h5
      · obtain ⟨k, y, _, hy, hyb⟩ := hX b h5
        exact (h.out k y b hy hyb).1
      · exact .inr (Nat.le_trans h.frm.size h5)
    · obtain ⟨h3, h4⟩ := h.out j x b hj hxb
      refine ⟨h3, fun p hp' => ?_⟩
      have hlt := hold j x b hj hns hxb
      cases hc : M' p with
      | none => rfl
      | some v =>
        rcases hM.2 p v hc with h5 | h5
        · rw [h4 p hp'] at h5; cases h5
        · rcases h5 with h6 | h6
          · exact absurd (hp' ▸ h6) hlt.2
          · have h7 : w.heap.size ≤ p.block := h6
            omega
def Re (a b : AV) : Prop := ∀ M u, RA M a u → RA M b u
def Res (asq bs : List AV) : Prop := ∀ M us, RAs M asq us → RAs M bs us
theorem re_refl {a : AV} : Re a a := fun _ _ h => h
theorem re_own {i j : Nat} {v : Value} : Re (.own i v) (.own j v) := fun M u h => by simp only [RA] at h ⊢; exact h
theorem re_ptr {i j b off : Nat} : Re (.ptr i b off) (.ptr j b off) := fun M u h => by simp only [RA] at h ⊢; exact h
theorem re_cls {a : AV} {t : T} (hz : Rzs [] [a] [t]) : Re a (.c t) := fun M u h => by
  have h1 : RAs M [a] [u] := by simp only [RAs]; exact ⟨u, [], rfl, h, rfl⟩
  have h2 := cls_sound _ _ _ hz h1
  simp only [RTs] at h2
  obtain ⟨x, r, e, h3, _⟩ := h2
  injection e with e _
  subst e
  simpa only [RA] using h3
theorem res_nil : Res [] [] := fun _ _ h => h
theorem res_cons {a b : AV} {asq bs : List AV} (h : Re a b) (h' : Res asq bs) : Res (a :: asq) (b :: bs) := fun M us hu => by
  simp only [RAs] at hu ⊢
  obtain ⟨x, r, e, h1, h2⟩ := hu
  exact ⟨x, r, e, h M x h1, h' M r h2⟩
section
variable {P : Program} {F : Frm} {d : Option Tmp} {ty : TypeId} {pos : String} {aft : Array Edge} {g : Option (Nat × Bool)} {ρ : Operand → AV} {hp : List Blk} {K : AV → List Blk → Prop}
theorem lo_callG {f : FuncId} {y : Operand} {xs : List Operand} {ats : Array TypeId} {asq cap : List AV} {hs : List Blk} {R : AV → List Blk → Prop} (sel : List Nat) (hc : AG P f asq hs R) (hy : ∀ M u, RA M (ρ y) u → ∃ cs : List Value, u = .func (.func f) #[] cs.toArray ∧ RAs M cap cs) (hx : Res (xs.map ρ ++ cap) asq) (hsl : selB hp sel = some hs) (hf : freshB sel = true)
    (h : ∀ r hs2, R r hs2 → ∃ r', Re r r' ∧ sel.length ≤ hs2.length ∧ K r' (putB hp sel hs2)) : LO P F ⟨d, .call { callee := .value y, args := xs.toArray, argTypes := ats }, ty, pos, aft, g⟩ ρ hp K := by
  refine ⟨fun M e w he hh => ?_⟩
  obtain ⟨hE, hcall⟩ := hc
  have h1 := he y (by simp [Op.operands, Call.operands])
  obtain ⟨cs, hu, hcs⟩ := hy M _ h1
  rw [run_call hE hu]
  have hav := (ev_all xs (fun x hx => he x (by simp [Op.operands, Call.operands, hx]))).app hcs
  refine (hcall (subF M hh.glob hs w) M w _ (heap_sel hh hsl hf) (hx M _ hav)).mono ?_
  rintro e' w' ⟨v, r, hs2, M', rfl, hR, hM, hh2, hr⟩
  obtain ⟨r', hre, hl, hK⟩ := h r hs2 hR
  exact ⟨v, rfl, M', r', _, hK, hM.to (sub_may hh hsl), heap_put hh hsl hl hh2, hre M' v hr⟩
end
end Go.Proofs.Ytllgibfmddihgaa
namespace Go.Proofs.Ytllgibfmddihgaa
open Go.RowKit Go.Lib
def bytT (b : UInt8) : T := .lit (.int .u8 (b.toNat : Int))
def byts (l : List UInt8) : List T := l.map bytT
def bytRow (l : List UInt8) : T := .row l.length 1 (byts l)
theorem rt_byts {M : Mm} : ∀ l : List UInt8, RTs M (byts l) (bvs l)
  | [] => by simp [byts, bvs, RTs]
  | b :: l => by
    simp only [byts, bvs, List.map_cons, RTs]
    exact ⟨_, _, rfl, by simp only [bytT, RT, bv], rt_byts l⟩
section
variable {P : Program} {F : Frm} {L : Tab} {d : Option Tmp} {ty : TypeId} {pos : String} {aft : Array Edge} {g : Option (Nat × Bool)} {ρ : Operand → AV} {hp : List Blk} {K : AV → List Blk → Prop}
variable {t t' u e : TypeId} {x y : Operand} {k k' : IntKind} {a b : Int}
theorem lo_bytes {ti tu te : TI} {s : ByteArray} (hL : TabOk P L) (hx : ρ x = .c (.lit (.string s))) (hs : s.size ≤ maxLen) (hu : L.look u = some tu) (hud : tu.d = .string) (ht : L.look t = some ti) (hd : ti.d = .slice e) (he : L.look e = some te) (hed : te.d = .int .u8) (h : K (.c (bytRow s.data.toList)) hp) : LO P F ⟨d, .convert u t x, ty, pos, aft, g⟩ ρ hp K := by
  refine ⟨fun M ev w hev hh => ?_⟩
  have h1 := hev x (by first | (simp [Op.operands]; done) | simp [Op.operands, Call.operands])
  rw [hx] at h1
  simp only [RA, RT] at h1
  obtain ⟨c, w', h2, h3, h4, h5⟩ := run_bytes_rd (P := P) w u t e s.data.toList (hL.string hu hud) (hL.slice ht hd) (hL.int he hed)
  have hsz : s.data.toList.length = s.size := rfl
  have hrun : (execOp ev ⟨d, .convert u t x, ty, pos, aft, g⟩).run P w = .ok (.value (.slice (some ⟨w.heap.size, 0, none⟩) s.data.toList.length c)) w' := by
    simp [execOp, h1] at h2 ⊢
    simp [h2]
  rw [hrun]
  have hm0 := hh.mem.below h5
  have hM := frz_ext (M := M) w.heap.size w'
  refine ⟨frz M w.heap.size w', _, hp, h, (hM.low hh.frm.size), hh.below h5 hM (frz_ok hm0 _), ?_⟩
  simp only [RA, bytRow, RT]
  refine ⟨some ⟨w.heap.size, 0, none⟩, c, bvs s.data.toList, rfl, h3, by rw [hsz]; exact hs, by omega, by rw [bvs_len]; omega, fun hn => ⟨_, rfl, fun j u hj => ?_⟩, rt_byts _⟩
  obtain ⟨ad, e1, _, e2⟩ := h4.2 hn
  injection e1 with e1
  subst e1
  exact frz_new (mem_fresh hh.mem (by rw [add_block]; exact Nat.le_refl _)) (by rw [add_block]; exact Nat.le_refl _) (e2 j u hj) (bvs_one _ u (List.mem_of_getElem? hj))
end
end Go.Proofs.Ytllgibfmddihgaa
namespace Go.Proofs.Ytllgibfmddihgaa
open Go.RowKit
section
variable {L : Tab} {σ : AS}
theorem outsA_nil : OutsA L σ [] [] := by simp only [OutsA]
theorem outsA_cons {r : ResultVar} {rs : List ResultVar} {v : AV} {vs : List AV} (h : OutA L σ r v) (h' : OutsA L σ rs vs) : OutsA L σ (r :: rs) (v :: vs) := by simp only [OutsA]; exact ⟨v, vs, rfl, h, h'⟩
theorem outA_tmp {i : Nat} {v : AV} (h : fc (σ.tmps i) = some v) : OutA L σ (.tmp i) v := by simp only [OutA]; exact fc_eq h
theorem outA_agg {a ty i b off : Nat} {tb : TypeId} {cs l : List AV} {ti : TI} (h1 : σ.tmps a = .ptr i b off) (h2 : σ.hp[i]? = some (.box b tb cs)) (h3 : L.look ty = some ti) (h4 : ti.agg = true) (h5 : Nat.ble (off + ti.size) cs.length = true) (h6 : evl ((cs.drop off).take ti.size) = some l) : OutA L σ (.cell a ty) (.agg l) := by
  simp only [OutA]
  refine ⟨i, b, off, tb, cs, ti, h1, h2, h3, ?_⟩
  rw [h4]
  exact ⟨Nat.le_of_ble_eq_true h5, by rw [evl_eq h6]⟩
theorem outA_one {a ty i b off : Nat} {tb : TypeId} {cs : List AV} {v : AV} {ti : TI} (h1 : σ.tmps a = .ptr i b off) (h2 : σ.hp[i]? = some (.box b tb cs)) (h3 : L.look ty = some ti) (h4 : ti.agg = false) (h5 : cs[off]? = some v) : OutA L σ (.cell a ty) v := by
  simp only [OutA]
  refine ⟨i, b, off, tb, cs, ti, h1, h2, h3, ?_⟩
  rw [h4]
  exact h5
theorem zG {res : List ResultVar} {k : Nat} {R : AV → List Blk → Prop} {e : Exit} {vs : List AV} {hq : List Blk} (h : R (outA vs) hq) (he : e = .normal ∨ e = .ret := by first | exact .inl rfl | exact .inr rfl)
    (ho : OutsA L σ res vs := by repeat (first | exact outsA_nil | apply outsA_cons | (apply outA_tmp; (focus exact rfl)) | (apply outA_agg; (focus exact rfl); (focus exact rfl); (focus exact rfl); (focus exact rfl); (focus exact rfl); (focus exact rfl)) | (apply outA_one; (focus exact rfl); (focus exact rfl); (focus exact rfl); (focus exact rfl); (focus exact rfl))))
    (hh : evl (σ.hp.take k) = some hq := by exact rfl) : FinG L res k R e σ := ⟨he, vs, ho, by rw [← evl_eq hh]; exact h⟩
end
section
variable {P : Program} {F : Frm} {L : Tab} {d : Option Tmp} {ty : TypeId} {pos : String} {aft : Array Edge} {g : Option (Nat × Bool)} {ρ : Operand → AV} {hp : List Blk} {K : AV → List Blk → Prop}
theorem zCallG {f : FuncId} {y : Operand} {xs : List Operand} {ats : Array TypeId} {asq cap : List AV} {hs : List Blk} {R : AV → List Blk → Prop} (sel : List Nat) (hc : AG P f asq hs R)
    (h : ∀ r hs2, R r hs2 → ∃ r' hp', Re r r' ∧ Nat.ble sel.length hs2.length = true ∧ evl (putB hp sel hs2) = some hp' ∧ K r' hp') (hy : ρ y = .fn (.func f) cap := by exact rfl)
    (hx : Res (xs.map ρ ++ cap) asq := by repeat (first | exact res_nil | apply res_cons | exact re_own | exact re_ptr | exact re_refl | apply re_cls | exact rzs_nil | apply rzs_cons | exact rz_c | exact rz_nil rfl | apply rz_agg | apply rz_fn | apply rz_tup)) (hsl : selB hp sel = some hs := by exact rfl) (hf : freshB sel = true := by exact rfl) :
    LO P F ⟨d, .call { callee := .value y, args := xs.toArray, argTypes := ats }, ty, pos, aft, g⟩ ρ hp K :=
  lo_callG sel hc (fun M u hu => by rw [hy] at hu; simpa only [RA] using hu) hx hsl hf fun r hs2 hR => by
    obtain ⟨r', hp', h1, h2, h3, h4⟩ := h r hs2 hR
    exact ⟨r', h1, Nat.le_of_ble_eq_true h2, by rw [← evl_eq h3]; exact h4⟩
variable {t u e : TypeId} {x y : Operand} {ti tu te : TI} {cs : List T} {n i : Nat} {v : Value} {e' : TypeId}
theorem zByt {s : ByteArray} (hs : s.size ≤ maxLen) (h : K (.c (bytRow s.data.toList)) hp) (hL : TabOk P L := by exact tok) (hx : ρ x = .c (.lit (.string s)) := by exact rfl) (hu : L.look u = some tu := by exact rfl) (hud : tu.d = .string := by exact rfl) (ht : L.look t = some ti := by exact rfl) (hd : ti.d = .slice e := by exact rfl) (he : L.look e = some te := by exact rfl) (hed : te.d = .int .u8 := by exact rfl) :
    LO P F ⟨d, .convert u t x, ty, pos, aft, g⟩ ρ hp K := lo_bytes hL hx hs hu hud ht hd he hed h
end
end Go.Proofs.Ytllgibfmddihgaa
namespace Go.Proofs.Ytllgibfmddihgaa
open Go.RowKit
def bs (l : List UInt8) : ByteArray := ⟨l.toArray⟩
theorem bs_size' (l : List UInt8) : (bs l).size = l.length := by simp [bs, ByteArray.size]
section
variable {P : Program} {F : Frm} {L : Tab} {d : Option Tmp} {ty : TypeId} {pos : String} {aft : Array Edge} {g : Option (Nat × Bool)} {ρ : Operand → AV} {hp : List Blk} {K : AV → List Blk → Prop}
theorem zBo {t el : TypeId} {ti te : TI} {n k : Nat} {parts : List (Nat × Operand)} {cs cs' : List AV} {ts : List T} {hp' : Value → List Blk} (h : ∀ v, K (.own k v) (hp' v)) (hL : TabOk P L := by exact tok) (ht : L.look t = some ti := by exact rfl) (hd : ti.d = .slice el := by exact rfl) (hte : L.look el = some te := by exact rfl) (h0 : Nat.ble 1 te.size = true := by exact rfl) (hn : Nat.ble (n * te.size) 16777216 = true := by exact rfl)
    (hf : fillA (fun i => some (i * te.size, te.size)) ((List.range (n * te.size)).map fun j => .c (.lit (te.zero.getD (j % te.size) undef))) (parts.map fun p => (p.1, ρ p.2)) = some cs := by exact rfl) (he : evl cs = some cs' := by exact rfl) (hz : Rzs [] cs' ts := by repeat (first | exact rzs_nil | apply rzs_cons | exact rz_c | exact rz_nil rfl | apply rz_agg | exact rz_own rfl | apply rz_fn | exact rz_ptr rfl | apply rz_tup)) (hk : lenU hp = some k := by exact rfl) (hq : ∀ v, evl (hp ++ [.row v el te.size n ts]) = some (hp' v) := by exact fun _ => rfl) :
    LO P F ⟨d, .buildSlice t n parts.toArray, ty, pos, aft, g⟩ ρ hp K := v_bslice_own hL ht hd hte h0 hn hf he hz hk hq h
end
end Go.Proofs.Ytllgibfmddihgaa
namespace Go.Proofs.Ytllgibfmddihgaa
open Go.RowKit
inductive Pl where
  | fin (r : List Nat)
  | fork (p : List Nat) (i : Nat) (a : Pl) (j : Nat) (b : Pl)
def Pl.n : Pl → Nat
  | .fin r => r.length
  | .fork p _ a _ _ => a.n + 1 + p.length
end Go.Proofs.Ytllgibfmddihgaa
namespace Go.Proofs.Ytllgibfmddihgaa
open Go.RowKit
theorem guard_slice {P : Program} {op : BinOp} {t : TypeId} {x y : Operand} {a b : Option Addr} {n c n' c' : Nat} (w : World) : (eqGuard op t x y (.slice a n c) (.slice b n' c')).run P w = .ok () w := by
  unfold eqGuard; simp
theorem run_nilS {P : Program} {t e : TypeId} (h : P.underlying t = some (.slice e)) (a : Option Addr) (n c : Nat) (w : World) : (Op.equal t (.slice a n c) (.slice none 0 0)).run P w = .ok a.isNone w := by
  rw [Op.equal, show Op.maxDepth = 9999 + 1 from rfl, Op.equalIn]
  simp only [Sem.run_bind, run_underlying h, Result.andThen_ok]
  cases a <;> rfl
section
variable {P : Program} {F : Frm} {L : Tab} {d : Option Tmp} {ty : TypeId} {pos : String} {aft : Array Edge} {g : Option (Nat × Bool)} {ρ : Operand → AV} {hp : List Blk} {K : AV → List Blk → Prop}
theorem zNs {t t' el : TypeId} {ti : TI} {x y : Operand} {n sz : Nat} {cs : List T} (h : ∀ b : Bool, (b = true → n = 0) → K (.c (.lit (.bool b))) hp) (hL : TabOk P L := by exact tok) (hx : ρ x = .c (.row n sz cs) := by exact rfl) (hy : ρ y = .c (.lit (.slice none 0 0)) := by exact rfl) (ht : L.look t = some ti := by exact rfl) (hd : ti.d = .slice el := by exact rfl) : LO P F ⟨d, .binOp .eql t x y t', ty, pos, aft, g⟩ ρ hp K := by
  refine ⟨fun M e w he hh => ?_⟩
  have h1 := he x (by first | (simp [Op.operands]; done) | simp [Op.operands, Call.operands])
  rw [hx] at h1
  have h2 := he y (by first | (simp [Op.operands]; done) | simp [Op.operands, Call.operands])
  rw [hy] at h2
  simp only [RA, RT] at h1 h2
  obtain ⟨A, c, xs, hu, hc, hn, h0, hl, hat, hrt⟩ := h1
  have hr : (execOp e ⟨d, .binOp .eql t x y t', ty, pos, aft, g⟩).run P w = .ok (.value (.bool A.isNone)) w := by
    simp [execOp, hu, h2, guard_slice, binOp, run_nilS (hL.slice ht hd)]
  rw [hr]
  refine ⟨M, _, hp, h A.isNone fun hb => ?_, Ext.refl _ _, hh, by simp only [RA, RT]⟩
  rcases Nat.eq_zero_or_pos n with h3 | h3
  · exact h3
  · obtain ⟨ad, rfl, _⟩ := hat h3
    cases hb
theorem zSix {t : TypeId} {ti : TI} {x y : Operand} {l : List UInt8} {k : IntKind} {a : Int} {b : UInt8} (m : Nat) (hb : l[m]? = some b) (hK : K (.c (.lit (.int .u8 (b.toNat : Int)))) hp) (hz : a = (m : Int) := by exact rfl) (hL : TabOk P L := by exact tok) (hx : ρ x = .c (.lit (.string (bs l))) := by exact rfl) (hy : ρ y = .c (.lit (.int k a)) := by exact rfl) (ht : L.look t = some ti := by exact rfl) (hd : ti.d = .string := by exact rfl) : LO P F ⟨d, .index t x y, ty, pos, aft, g⟩ ρ hp K := by
  refine LO.same (fun M e w he _ => ?_) hK
  have h1 := he x (by simp [Op.operands])
  rw [hx] at h1
  have h2 := he y (by simp [Op.operands])
  rw [hy] at h2
  simp only [RA, RT] at h1 h2
  subst hz
  refine ⟨.int .u8 (b.toNat : Int), ?_, by simp only [RA, RT]⟩
  obtain ⟨hm, hlm⟩ := List.getElem?_eq_some_iff.1 hb
  have hsz : (bs l).size = l.length := bs_size' l
  have hi := run_index_string (P := P) w t (bs l) k (m : Int) (hL.string ht hd)
  rw [dif_pos ⟨by omega, by omega⟩] at hi
  have hel : (bs l)[(m : Int).toNat]'(by omega) = b := by
    subst hlm
    simp [bs, ByteArray.getElem_eq_getElem_data]
  rw [hel] at hi
  simp [execOp, h1, h2, hi]
end
end Go.Proofs.Ytllgibfmddihgaa
namespace Go.Proofs.Ytllgibfmddihgaa
open Go.RowKit
theorem byt_at {l : List UInt8} {k : Nat} {a : UInt8} (h : l[k]? = some a) : (byts l)[k * 1]? = some (bytT a) := by simp [byts, h]
theorem bs_data (s : ByteArray) : bs s.data.toList = s := by cases s; rfl
theorem okTo_at {l : List UInt8} {k : Nat} {b : UInt8} (hb : l[k]? = some b) (h : okTo l k) (hx : okN k b.toNat = true) : okTo l (k + 1) := by
  obtain ⟨h1, rfl⟩ := List.getElem?_eq_some_iff.1 hb
  exact okTo_succ h h1 hx
theorem nameOk_at {l : List UInt8} {k : Nat} {b : UInt8} (hb : l[k]? = some b) (hx : okN k b.toNat = false) : nameOk l = false := by
  obtain ⟨h1, rfl⟩ := List.getElem?_eq_some_iff.1 hb
  exact nameOk_bad h1 hx
set_option maxRecDepth 100000 in
set_option maxHeartbeats 4000000 in
theorem name_af (l : List UInt8) (hl : l.length ≤ 1048576) : AF Try.prog 110 [.lit (.string (bs l))] (· = .lit (.bool (nameOk l))) := by
  have hsz := bs_size' l
  refine af_enter tok Try.func110 Try.ntmps110 Try.results110 rfl (by kernel_rfl) rfl rfl fun F hX => ?_
  repeat (first | refine gG ?_ | refine zN1 (fun hlen => ?_) | refine zN2 (fun hlen => ?_))
  refine x_loop [2, 3, 4, 5, 8, 9, 10, 11, 12, 13, 14, 15, 16, 17, 18, 19, 20, 21, 22, 23, 24, 25, 26, 27, 28, 29, 30, 31, 32, 33, 34, 35, 36, 37, 38] (fun k : Nat => [(8, .c (.lit (.int .i64 (k : Nat))))]) (fun _ => []) (fun k => k ≤ l.length ∧ okTo l k) (fun k => l.length - k) 0 ⟨Nat.zero_le _, okTo_zero l⟩ ⟨rfl, trivial⟩ rfl ?_
  rintro k ⟨hk, hok⟩
  repeat (first | refine gG ?_ | refine zN1 (fun hlen => ?_) | refine zN2 (fun hlen => ?_))
  refine x_cond rfl (fun h => ?_) (fun h => ?_)
  · have hk' : k < l.length := by rw [hsz] at h; simpa using h
    obtain ⟨b, hb⟩ := nth hk'
    have hy := fun h => okTo_at hb hok h
    have hn := fun h => nameOk_at (k := k) hb h
    repeat (first | refine gG ?_ | refine zN1 (fun hlen => ?_) | refine zN2 (fun hlen => ?_))
    refine zSix k hb ?_
    clear hb hok
    have hxx : okN k b.toNat = (decide (97 ≤ b.toNat ∧ b.toNat ≤ 122) || (decide (k ≠ 0) && (decide (b.toNat = 95) || decide (48 ≤ b.toNat ∧ b.toNat ≤ 57)))) := rfl
    generalize okN k b.toNat = okk at *
    generalize b.toNat = x at *
    cases d1 : decide ((97 : Int) ≤ (x : Int))
    · cases d3 : decide ((k : Int) = 0)
      · cases d4 : decide ((x : Int) = 95)
        · cases d5 : decide ((x : Int) < 48)
          · cases d6 : decide ((57 : Int) < (x : Int))
            · repeat (first | refine gG ?_ | refine zN1 (fun hlen => ?_) | refine zN2 (fun hlen => ?_))
              exact ⟨k + 1, ⟨hk', hy (by rw [hxx]; simp at d1 d3 d4 d5 d6; simp; omega)⟩, by omega, x_wkd 0 ⟨rfl, trivial⟩ rfl (by repeat (first | exact ag_refl | refine ag_upd rfl ?_ | refine ag_at rfl rfl ?_))⟩
            · repeat (first | refine gG ?_ | refine zN1 (fun hlen => ?_) | refine zN2 (fun hlen => ?_))
              first | refine zR ?_ | refine zQ ?_
              rw [hn (by rw [hxx]; simp at d1 d3 d4 d5 d6; simp; omega)]
              rfl
          · repeat (first | refine gG ?_ | refine zN1 (fun hlen => ?_) | refine zN2 (fun hlen => ?_))
            first | refine zR ?_ | refine zQ ?_
            rw [hn (by rw [hxx]; simp at d1 d3 d4 d5; simp; omega)]
            rfl
        · repeat (first | refine gG ?_ | refine zN1 (fun hlen => ?_) | refine zN2 (fun hlen => ?_))
          exact ⟨k + 1, ⟨hk', hy (by rw [hxx]; simp at d1 d3 d4; simp; omega)⟩, by omega, x_wkd 0 ⟨rfl, trivial⟩ rfl (by repeat (first | exact ag_refl | refine ag_upd rfl ?_ | refine ag_at rfl rfl ?_))⟩
      · repeat (first | refine gG ?_ | refine zN1 (fun hlen => ?_) | refine zN2 (fun hlen => ?_))
        first | refine zR ?_ | refine zQ ?_
        rw [hn (by rw [hxx]; simp at d1 d3; simp; omega)]
        rfl
    · cases d2 : decide ((x : Int) ≤ 122)
      · cases d3 : decide ((k : Int) = 0)
        · cases d4 : decide ((x : Int) = 95)
          · cases d5 : decide ((x : Int) < 48)
            · cases d6 : decide ((57 : Int) < (x : Int))
              · repeat (first | refine gG ?_ | refine zN1 (fun hlen => ?_) | refine zN2 (fun hlen => ?_))
                exact ⟨k + 1, ⟨hk', hy (by rw [hxx]; simp at d1 d2 d3 d4 d5 d6; simp; omega)⟩, by omega, x_wkd 0 ⟨rfl, trivial⟩ rfl (by repeat (first | exact ag_refl | refine ag_upd rfl ?_ | refine ag_at rfl rfl ?_))⟩
              · repeat (first | refine gG ?_ | refine zN1 (fun hlen => ?_) | refine zN2 (fun hlen => ?_))
                first | refine zR ?_ | refine zQ ?_
                rw [hn (by rw [hxx]; simp at d1 d2 d3 d4 d5 d6; simp; omega)]
                rfl
            · repeat (first | refine gG ?_ | refine zN1 (fun hlen => ?_) | refine zN2 (fun hlen => ?_))
              first | refine zR ?_ | refine zQ ?_
              rw [hn (by rw [hxx]; simp at d1 d2 d3 d4 d5; simp; omega)]
              rfl
          · repeat (first | refine gG ?_ | refine zN1 (fun hlen => ?_) | refine zN2 (fun hlen => ?_))
            exact ⟨k + 1, ⟨hk', hy (by rw [hxx]; simp at d1 d2 d3 d4; simp; omega)⟩, by omega, x_wkd 0 ⟨rfl, trivial⟩ rfl (by repeat (first | exact ag_refl | refine ag_upd rfl ?_ | refine ag_at rfl rfl ?_))⟩
        · repeat (first | refine gG ?_ | refine zN1 (fun hlen => ?_) | refine zN2 (fun hlen => ?_))
          first | refine zR ?_ | refine zQ ?_
          rw [hn (by rw [hxx]; simp at d1 d2 d3; simp; omega)]
          rfl
      · repeat (first | refine gG ?_ | refine zN1 (fun hlen => ?_) | refine zN2 (fun hlen => ?_))
        exact ⟨k + 1, ⟨hk', hy (by rw [hxx]; simp at d1 d2; simp; omega)⟩, by omega, x_wkd 0 ⟨rfl, trivial⟩ rfl (by repeat (first | exact ag_refl | refine ag_upd rfl ?_ | refine ag_at rfl rfl ?_))⟩
  · have hk' : k = l.length := by rw [hsz] at h; have : ¬ k < l.length := by simpa using h
                                  omega
    subst hk'
    cases d1 : decide (bs l = (⟨#[]⟩ : ByteArray))
    · cases d2 : decide (((bs l).size : Int) ≤ 16)
      · repeat (first | refine gG ?_ | refine zN1 (fun hlen => ?_) | refine zN2 (fun hlen => ?_))
        first | refine zR ?_ | refine zQ ?_
        rw [nameOk_long (by have := of_decide_eq_false d2; omega), d2]
        rfl
      · repeat (first | refine gG ?_ | refine zN1 (fun hlen => ?_) | refine zN2 (fun hlen => ?_))
        first | refine zR ?_ | refine zQ ?_
        have h0 : l ≠ [] := by
          rintro rfl
          exact absurd rfl (of_decide_eq_false d1)
        rw [nameOk_yes h0 (by have := of_decide_eq_true d2; omega) hok, d2]
        rfl
    · repeat (first | refine gG ?_ | refine zN1 (fun hlen => ?_) | refine zN2 (fun hlen => ?_))
      first | refine zR ?_ | refine zQ ?_
      have h0 : l = [] := by
        have := congrArg (fun s => s.data.toList) (of_decide_eq_true d1)
        exact this
      rw [h0, nameOk_nil]
      rfl
end Go.Proofs.Ytllgibfmddihgaa
namespace Go.Proofs.Ytllgibfmddihgaa
open Go.RowKit
set_option maxRecDepth 100000 in
set_option maxHeartbeats 4000000 in
theorem moduleName_af (l : List UInt8) (hl : l.length ≤ 1048576) : AF Try.prog 113 [.lit (.string (bs l))] (· = .lit (.bool (nameOk l))) := by
  have hsz := bs_size' l
  refine af_enter tok Try.func113 Try.ntmps113 Try.results113 rfl (by kernel_rfl) rfl rfl fun F hX => ?_
  cases d1 : decide (bs l = (⟨#[]⟩ : ByteArray))
  rotate_left
  · repeat (first | refine gG ?_ | refine zN1 (fun hlen => ?_) | refine zN2 (fun hlen => ?_))
    first | refine zR ?_ | refine zQ ?_
    have h0 : l = [] := by
      have := congrArg (fun s => s.data.toList) (of_decide_eq_true d1)
      exact this
    rw [h0, nameOk_nil]
    rfl
  cases d2 : decide ((16 : Int) < ((bs l).size : Int))
  rotate_left
  · repeat (first | refine gG ?_ | refine zN1 (fun hlen => ?_) | refine zN2 (fun hlen => ?_))
    first | refine zR ?_ | refine zQ ?_
    rw [nameOk_long (by have := of_decide_eq_true d2; omega)]
    rfl
  have h0 : l ≠ [] := by
    rintro rfl
    exact absurd rfl (of_decide_eq_false d1)
  have h16 : l.length ≤ 16 := by have := of_decide_eq_false d2; omega
  repeat (first | refine gG ?_ | refine zN1 (fun hlen => ?_) | refine zN2 (fun hlen => ?_))
  clear d1 d2
  refine zByt (by rw [hsz]; simp only [maxLen]; omega) ?_
  rw [show (bs l).data.toList = l from rfl]
  repeat (first | refine gG ?_ | refine zN1 (fun hlen => ?_) | refine zN2 (fun hlen => ?_))
  refine x_loop [2, 3, 4, 5, 16, 17, 18, 19, 20, 21, 22, 23, 24, 25, 26, 27, 28, 29, 30, 31, 32, 33, 34, 35, 36, 37, 38, 39, 40, 41, 42, 43, 44, 45] (fun k : Nat => [(16, .c (.lit (.int .i64 (k : Nat))))]) (fun _ => []) (fun k => k ≤ l.length ∧ okTo l k) (fun k => l.length - k) 0 ⟨Nat.zero_le _, okTo_zero l⟩ ⟨rfl, trivial⟩ rfl ?_
  rintro k ⟨hk, hok⟩
  repeat (first | refine gG ?_ | refine zN1 (fun hlen => ?_) | refine zN2 (fun hlen => ?_))
  refine x_cond rfl (fun h => ?_) (fun h => ?_)
  · have hk' : k < l.length := by simpa using h
    obtain ⟨b, hb⟩ := nth hk'
    have hy := fun h => okTo_at hb hok h
    have hn := fun h => nameOk_at (k := k) hb h
    repeat (first | refine gG ?_ | refine zN1 (fun hlen => ?_) | refine zN2 (fun hlen => ?_))
    refine zIx k hk' ?_
    repeat (first | refine gG ?_ | refine zN1 (fun hlen => ?_) | refine zN2 (fun hlen => ?_))
    refine zEl1 (v := .lit (.int .u8 (b.toNat : Int))) (byt_at hb) ?_
    clear hb hok
    have hxx : okN k b.toNat = (decide (97 ≤ b.toNat ∧ b.toNat ≤ 122) || (decide (k ≠ 0) && (decide (b.toNat = 95) || decide (48 ≤ b.toNat ∧ b.toNat ≤ 57)))) := rfl
    generalize okN k b.toNat = okk at *
    generalize b.toNat = x at *
    cases d1 : decide ((97 : Int) ≤ (x : Int))
    · cases d3 : decide ((k : Int) = 0)
      · cases d4 : decide ((x : Int) = 95)
        · cases d5 : decide ((x : Int) < 48)
          · cases d6 : decide ((57 : Int) < (x : Int))
            · repeat (first | refine gG ?_ | refine zN1 (fun hlen => ?_) | refine zN2 (fun hlen => ?_))
              exact ⟨k + 1, ⟨hk', hy (by rw [hxx]; simp at d1 d3 d4 d5 d6; simp; omega)⟩, by omega, x_wkd 0 ⟨rfl, trivial⟩ rfl (by repeat (first | exact ag_refl | refine ag_upd rfl ?_ | refine ag_at rfl rfl ?_))⟩
            · repeat (first | refine gG ?_ | refine zN1 (fun hlen => ?_) | refine zN2 (fun hlen => ?_))
              first | refine zR ?_ | refine zQ ?_
              rw [hn (by rw [hxx]; simp at d1 d3 d4 d5 d6; simp; omega)]
              rfl
          · repeat (first | refine gG ?_ | refine zN1 (fun hlen => ?_) | refine zN2 (fun hlen => ?_))
            first | refine zR ?_ | refine zQ ?_
            rw [hn (by rw [hxx]; simp at d1 d3 d4 d5; simp; omega)]
            rfl
        · repeat (first | refine gG ?_ | refine zN1 (fun hlen => ?_) | refine zN2 (fun hlen => ?_))
          exact ⟨k + 1, ⟨hk', hy (by rw [hxx]; simp at d1 d3 d4; simp; omega)⟩, by omega, x_wkd 0 ⟨rfl, trivial⟩ rfl (by repeat (first | exact ag_refl | refine ag_upd rfl ?_ | refine ag_at rfl rfl ?_))⟩
      · repeat (first | refine gG ?_ | refine zN1 (fun hlen => ?_) | refine zN2 (fun hlen => ?_))
        first | refine zR ?_ | refine zQ ?_
        rw [hn (by rw [hxx]; simp at d1 d3; simp; omega)]
        rfl
    · cases d2 : decide ((x : Int) ≤ 122)
      · cases d3 : decide ((k : Int) = 0)
        · cases d4 : decide ((x : Int) = 95)
          · cases d5 : decide ((x : Int) < 48)
            · cases d6 : decide ((57 : Int) < (x : Int))
              · repeat (first | refine gG ?_ | refine zN1 (fun hlen => ?_) | refine zN2 (fun hlen => ?_))
                exact ⟨k + 1, ⟨hk', hy (by rw [hxx]; simp at d1 d2 d3 d4 d5 d6; simp; omega)⟩, by omega, x_wkd 0 ⟨rfl, trivial⟩ rfl (by repeat (first | exact ag_refl | refine ag_upd rfl ?_ | refine ag_at rfl rfl ?_))⟩
              · repeat (first | refine gG ?_ | refine zN1 (fun hlen => ?_) | refine zN2 (fun hlen => ?_))
                first | refine zR ?_ | refine zQ ?_
                rw [hn (by rw [hxx]; simp at d1 d2 d3 d4 d5 d6; simp; omega)]
                rfl
            · repeat (first | refine gG ?_ | refine zN1 (fun hlen => ?_) | refine zN2 (fun hlen => ?_))
              first | refine zR ?_ | refine zQ ?_
              rw [hn (by rw [hxx]; simp at d1 d2 d3 d4 d5; simp; omega)]
              rfl
          · repeat (first | refine gG ?_ | refine zN1 (fun hlen => ?_) | refine zN2 (fun hlen => ?_))
            exact ⟨k + 1, ⟨hk', hy (by rw [hxx]; simp at d1 d2 d3 d4; simp; omega)⟩, by omega, x_wkd 0 ⟨rfl, trivial⟩ rfl (by repeat (first | exact ag_refl | refine ag_upd rfl ?_ | refine ag_at rfl rfl ?_))⟩
        · repeat (first | refine gG ?_ | refine zN1 (fun hlen => ?_) | refine zN2 (fun hlen => ?_))
          first | refine zR ?_ | refine zQ ?_
          rw [hn (by rw [hxx]; simp at d1 d2 d3; simp; omega)]
          rfl
      · repeat (first | refine gG ?_ | refine zN1 (fun hlen => ?_) | refine zN2 (fun hlen => ?_))
        exact ⟨k + 1, ⟨hk', hy (by rw [hxx]; simp at d1 d2; simp; omega)⟩, by omega, x_wkd 0 ⟨rfl, trivial⟩ rfl (by repeat (first | exact ag_refl | refine ag_upd rfl ?_ | refine ag_at rfl rfl ?_))⟩
  · have hk' : k = l.length := by have : ¬ k < l.length := by simpa using h
                                  omega
    subst hk'
    repeat (first | refine gG ?_ | refine zN1 (fun hlen => ?_) | refine zN2 (fun hlen => ?_))
    first | refine zR ?_ | refine zQ ?_
    rw [nameOk_yes h0 h16 hok]
    rfl
end Go.Proofs.Ytllgibfmddihgaa
