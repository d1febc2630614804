/-
  Texts of this proof, part 13: Tlaw5 Tsv Vqa Vqb Vqb2 Vqc Ab25.
-/
import Derived.Test.YtnkafjkcjpajgaaQRenewPlan12
import Derived.Lib.AppendStr
import Derived.Lib.AppendZerosOnto
import Derived.Lib.MinMax
namespace Go.Proofs.Ytnkafjkcjpajgaa
open Go.RowKit
theorem AF.imp {P : Program} {f : FuncId} {args : List T} {R R' : T → Prop} (h : AF P f args R) (hi : ∀ r, R r → R' r) : AF P f args R' :=
  ⟨h.1, fun M w vs hG hM hv => (h.2 M w vs hG hM hv).mono fun _ _ ⟨v, r, M', h1, h2, h3⟩ => ⟨v, r, M', h1, hi r h2, h3⟩⟩
def Pr.valR (p : Pr) : Nat → Sc → Y → V
  | 0, s, y => (p.first 0 s y).getD V0
  | d + 1, s, y => (p.first (d + 1) s y).getD (failC (p.valR d) (mean y s).1 (mean y s).2)
theorem Pr.valR_eq (p : Pr) : ∀ (d : Nat) {s : Sc} {y : Y} {v : V}, p.first d s y = some v → p.valR d s y = v
  | 0, _, _, _, h => by rw [Pr.valR, h]; rfl
  | _ + 1, _, _, _, h => by rw [Pr.valR, h]; rfl
theorem firstR_af (p : Pr) : ∀ (d : Nat), d ≤ 3 → ∀ (y : Y) (s : Sc), AF Try.prog 107 [p.t, y.t, s.t, .lit (.int .i64 (d : Int))] (· = .tup [(p.valR d s y).t, .lit (.bool (p.first d s y).isSome)])
  | 0, _, y, s => firstR0_af p y s
  | d + 1, h, y, s => firstRS_af p d (by omega) (p.first d) (p.valR d) (fun s y v hv => p.valR_eq d hv) (fun y s => firstR_af p d (by omega) y s) y s
set_option maxRecDepth 100000 in
set_option maxHeartbeats 2000000 in
theorem refFirst_af (p : Pr) (y : Y) : AF Try.prog 76 [p.t, y.t] (· = .tup [((p.least y).getD V0).t, .lit (.int .i64 (codeV (p.least y)))]) := by
  obtain ⟨g', hg'⟩ : ∃ g', (fun d => p.first d .nil y) = g' := ⟨_, rfl⟩
  have hf : ∀ d : Nat, d ≤ 3 → AF Try.prog 107 [p.t, y.t, Sc.nil.t, .lit (.int .i64 (d : Int))] (IsFirst (g' d)) := by
    intro d hd
    rw [← hg']
    exact (firstR_af p d hd y .nil).imp fun r h => ⟨p.valR d .nil y, h, fun w hw => p.valR_eq d hw⟩
  unfold Pr.least
  rw [hg']
  clear hg'
  obtain ⟨k0, n0, l0⟩ := y
  obtain ⟨pn, pv, us, das, trs, ims, fus, acs⟩ := p
  refine af_enter tok Try.func76 Try.ntmps76 Try.results76 rfl (by kernel_rfl) rfl rfl fun F hX => ?_
  repeat (first | refine gG ?_ | refine zAl (fun _ => ?_) | refine zBx (fun _ => ?_))
  rename_i b0 b1 b2
  refine x_loop [5, 6, 7, 8, 9, 10, 11, 12, 13, 14, 15, 16, 17, 18, 19, 20, 21] (fun d : Nat => [(6, .c (.lit (.int .i64 d)))]) (fun _ => [.box b0 66 [.c (.lit (.string pn)), .c (.lit (.int .i64 pv)), .c (Us.row us), .c (Da.row das), .c (Tr.row trs), .c (Im.row ims), .c (Fu.row fus), .c (Ac.row acs)], .box b1 69 ((Y.mk k0 n0 l0).ts.map .c), .box b2 148 [.c (.lit (.int .i64 0)), .c (.lit (.int .i64 0)), .c (.lit (.string ⟨#[]⟩)), .c (.lit (.slice none 0 0))]])
    (fun d => d ≤ 4 ∧ leastFrom g' 0 4 = leastFrom g' d (4 - d)) (fun d => 4 - d) 0 ⟨Nat.zero_le _, rfl⟩ ⟨rfl, trivial⟩ rfl fun d hd => ?_
  have hd1 := hd.1
  repeat (first | refine gG ?_ | refine zAl (fun _ => ?_) | refine zBx (fun _ => ?_))
  refine x_cond rfl (fun h => ?_) (fun h => ?_)
  · have hd4 : d < 4 := by have : (d : Int) ≤ 3 := of_decide_eq_true h
                           omega
    have hc := hf d (by omega)
    have hst := leastFrom_at (g := g') hd4
    cases ho : g' d with
    | none =>
      rw [ho] at hc hst
      repeat (first | refine gG ?_ | refine zAl (fun _ => ?_) | refine zBx (fun _ => ?_))
      refine zCall (hc) ?_
      rintro _ ⟨⟨kr, nr, tr, lr⟩, rfl, -⟩
      repeat (first | refine gG ?_ | refine zAl (fun _ => ?_) | refine zBx (fun _ => ?_))
      exact ⟨d + 1, ⟨hd4, hd.2.trans hst⟩, by omega, x_wkd 3 ⟨rfl, trivial⟩ rfl (by repeat (first | exact ag_refl | refine ag_upd rfl ?_ | refine ag_at rfl rfl ?_))⟩
    | some r =>
      rw [ho] at hc hst
      rw [hd.2, hst]
      dsimp only [codeV, Option.getD]
      repeat (first | refine gG ?_ | refine zAl (fun _ => ?_) | refine zBx (fun _ => ?_))
      refine zCall (hc) ?_
      rintro _ ⟨r', rfl, hr'⟩
      obtain rfl := hr' r rfl
      obtain ⟨kr, nr, tr, lr⟩ := r'
      repeat (first | refine gG ?_ | refine zAl (fun _ => ?_) | refine zBx (fun _ => ?_))
      first | refine zR (ts := [(V.mk kr nr tr lr).t, .lit (.int .i64 0)]) ?_ | refine zQ (ts := [(V.mk kr nr tr lr).t, .lit (.int .i64 0)]) ?_
      rfl
  · have hd4 : d = 4 := by have : ¬ (d : Int) ≤ 3 := of_decide_eq_false h
                           omega
    have hno : leastFrom g' 0 4 = none := by rw [hd.2, hd4]; rfl
    rw [hno]
    repeat (first | refine gG ?_ | refine zAl (fun _ => ?_) | refine zBx (fun _ => ?_))
    first | refine zR (ts := [V0.t, .lit (.int .i64 4)]) ?_ | refine zQ (ts := [V0.t, .lit (.int .i64 4)]) ?_
    rfl
end Go.Proofs.Ytnkafjkcjpajgaa
namespace Go.Proofs.Ytnkafjkcjpajgaa
open Go.RowKit
structure Inp where
  kind : Int
  val : V
def Inp.ts (x : Inp) : List T := .lit (.int .i64 x.kind) :: x.val.ts
theorem Inp.ts_len (x : Inp) : x.ts.length = 5 := by simp [Inp.ts, V.ts_len]
def Inp.same (x y : Inp) : Bool := decide (x.kind = y.kind) && x.val.same y.val
def Inp.t (x : Inp) : T := .agg x.ts
structure Sav where
  actor : ByteArray
  state : List V
  inputs : List Inp
def inpRow (l : List Inp) : T := .row l.length 5 (l.flatMap Inp.ts)
def Sav.t (s : Sav) : T := .agg [.lit (.string s.actor), V.row s.state, inpRow s.inputs]
def Sav.same (s s' : Sav) : Bool := decide (s.actor = s'.actor) && eqBy V.same s.state s'.state && eqBy Inp.same s.inputs s'.inputs
theorem Sav.same_refl (s : Sav) : s.same s = true := by
  simp [Sav.same, eqBy_refl (fun a (_ : a ∈ s.state) => V.same_refl a), eqBy_refl (p := Inp.same) (l := s.inputs) (fun a _ => by simp [Inp.same, V.same_refl])]
structure Fld where
  frm : Int
  first : V
def Fld.ts (x : Fld) : List T := .lit (.int .i64 x.frm) :: x.first.ts
theorem Fld.ts_len (x : Fld) : x.ts.length = 5 := by simp [Fld.ts, V.ts_len]
def Fld.t (x : Fld) : T := .agg x.ts
def intTs (i : Int) : List T := [.lit (.int .i64 i)]
def intRow (l : List Int) : T := .row l.length 1 (l.flatMap intTs)
def fldRow (l : List Fld) : T := .row l.length 5 (l.flatMap Fld.ts)
structure Mov where
  actor : ByteArray
  count : Int
  fields : List Fld
  lost : List Int
def Mov.ts (m : Mov) : List T := [.lit (.string m.actor), .lit (.int .i64 m.count), fldRow m.fields, intRow m.lost]
theorem Mov.ts_len (m : Mov) : m.ts.length = 4 := rfl
def Mov.t (m : Mov) : T := .agg m.ts
def movRow (l : List Mov) : T := .row l.length 4 (l.flatMap Mov.ts)
def wayT (l : List Mov) : T := .agg [movRow l]
end Go.Proofs.Ytnkafjkcjpajgaa
namespace Go.Proofs.Ytnkafjkcjpajgaa
open Go.RowKit
noncomputable def sameB (o w : Pr) (a b : Y) : Bool := by classical exact decide (∃ A, PF o w A ∧ a.lk A [] [] b)
theorem sameB_iff (o w : Pr) (a b : Y) : sameB o w a b = true ↔ ∃ A, PF o w A ∧ a.lk A [] [] b := by
  unfold sameB
  exact @decide_eq_true_iff _ (Classical.propDecidable _)
theorem sameB_af (o w : Pr) (a b : Y) : AF Try.prog 69 [o.t, w.t, a.t, b.t] (· = .lit (.bool (sameB o w a b))) :=
  (shapeSame_af o w a b).imp fun r ⟨z, h1, h2⟩ => by rw [h1, bool_iff h2 (sameB_iff o w a b)]
theorem refSameB_af (o w : Pr) (a b : Y) : AF Try.prog 75 [o.t, w.t, a.t, b.t] (· = .lit (.bool (sameB o w a b))) :=
  (refShape_af o w a b).imp fun r ⟨z, h1, h2⟩ => by rw [h1, bool_iff h2 (sameB_iff o w a b)]
/-- what becomes of a field of the new actor: an error, and the value that it begins with -/
noncomputable def fldE (o w : Pr) (a : Ac) (p : ByteArray × Y) : Int × V :=
  if posOf p.1 a.names < 0 then (match w.least p.2 with | some v => (0, v) | none => (8, V0)) else bif sameB o w ((a.types[(posOf p.1 a.names).toNat]?).getD default) p.2 then (0, V0) else (12, V0)
noncomputable def fldM (o w : Pr) (a : Ac) (p : ByteArray × Y) : Fld := ⟨posOf p.1 a.names, (fldE o w a p).2⟩
noncomputable def badF (o w : Pr) (a : Ac) (p : ByteArray × Y) : Bool := !decide ((fldE o w a p).1 = 0)
def isUsed (a : Ac) (ns : List ByteArray) (i : Int) : Bool := ns.any fun s => decide (posOf s a.names = i)
def lostTo (a : Ac) (ns : List ByteArray) (k : Nat) : List Int := ((List.range k).filter fun i => !isUsed a ns (i : Nat)).map fun i => ((i : Nat) : Int)
theorem lostTo_yes {a : Ac} {ns : List ByteArray} {k : Nat} (h : isUsed a ns (k : Nat) = true) : lostTo a ns (k + 1) = lostTo a ns k := by
  unfold lostTo
  rw [List.range_succ, List.filter_append]
  simp [h]
theorem lostTo_no {a : Ac} {ns : List ByteArray} {k : Nat} (h : isUsed a ns (k : Nat) = false) : lostTo a ns (k + 1) = lostTo a ns k ++ [((k : Nat) : Int)] := by
  unfold lostTo
  rw [List.range_succ, List.filter_append]
  simp [h]
theorem lostTo_len (a : Ac) (ns : List ByteArray) (k : Nat) : (lostTo a ns k).length ≤ k := by
  unfold lostTo
  rw [List.length_map]
  exact Nat.le_trans (List.length_filter_le _ _) (by simp)
def mov0 : Mov := ⟨⟨#[]⟩, 0, [], []⟩
noncomputable def planR (o w : Pr) (a b : Ac) : Mov × Int := match (b.names.zip b.types).find? (badF o w a) with
  | some p => (mov0, (fldE o w a p).1)
  | none => (⟨a.name, (a.names.length : Nat), (b.names.zip b.types).map (fldM o w a), lostTo a b.names a.names.length⟩, 0)
/-- the map of places that are used -/
def Used (a : Ac) (ns : List ByteArray) (m : List (Int × T)) : Prop := ∀ i : Int, (mget i m).getD (.lit (.bool false)) = .lit (.bool (isUsed a ns i))
theorem used_nil (a : Ac) : Used a [] [] := fun _ => rfl
theorem Used.put {a : Ac} {ns : List ByteArray} {m : List (Int × T)} (h : Used a ns m) (s : ByteArray) : Used a (ns ++ [s]) (mput (posOf s a.names) (.lit (.bool true)) m) := by
  intro i
  rw [mget_put]
  unfold isUsed
  rw [List.any_append]
  by_cases hi : i = posOf s a.names
  · subst hi; simp
  · rw [if_neg hi, h i]
    have : decide (posOf s a.names = i) = false := decide_eq_false (Ne.symm hi)
    simp [isUsed, this]
noncomputable def wayR (o w : Pr) : List Ac → List Mov × Int
  | [] => ([], 0)
  | a :: l => match w.actor a.name with
    | none => ([], 4)
    | some b => bif !decide (a.types.length = a.names.length) || !decide (b.types.length = b.names.length) then ([], 3) else bif !sameB o w a.msg b.msg then ([], 12) else
      if (planR o w a b).2 = 0 then (bif decide ((wayR o w l).2 = 0) then ((planR o w a b).1 :: (wayR o w l).1, 0) else ([], (wayR o w l).2)) else ([], (planR o w a b).2)
end Go.Proofs.Ytnkafjkcjpajgaa
namespace Go.Proofs.Ytnkafjkcjpajgaa
open Go.RowKit
set_option maxRecDepth 100000 in
set_option maxHeartbeats 1000000 in
theorem idxName_af (l : List ByteArray) (s : ByteArray) : AF Try.prog 101 [strRow l, .lit (.string s)] (· = .lit (.int .i64 (posOf s l))) := by
  unfold posOf
  refine af_enter tok Try.func101 Try.ntmps101 Try.results101 rfl (by kernel_rfl) rfl rfl fun F hX => ?_
  repeat (first | refine gG ?_ | refine zN1 (fun hlen => ?_) | refine zN2 (fun hlen => ?_))
  refine x_loop [4, 5, 8, 9, 10, 11, 12, 13, 14, 15, 16, 17, 18] (fun k : Nat => [(8, .c (.lit (.int .i64 (k : Nat))))]) (fun _ => []) (fun k => k ≤ l.length ∧ idxAt (fun a => decide (s = a)) l k) (fun k => l.length - k) 0 ⟨Nat.zero_le _, idxAt_zero _ l⟩ ⟨rfl, trivial⟩ rfl fun k hk => ?_
  repeat (first | refine gG ?_ | refine zN1 (fun hlen => ?_) | refine zN2 (fun hlen => ?_))
  refine x_cond rfl (fun h => ?_) (fun h => ?_)
  · have hk' : k < l.length := by simpa using h
    obtain ⟨a, ha⟩ := nth hk'
    have hat : (l.flatMap strTs)[k * 1]? = some (.lit (.string a)) := by rw [Nat.mul_one]; exact str_at ha
    have hno := fun hp => idxAt_no hk.2 ha hp
    have hyes := fun hp => idxAt_yes hk.2 ha hp
    clear h ha hk
    cases d1 : decide (s = a)
    · replace hno := hno d1
      repeat (first | refine gG ?_ | refine zN1 (fun hlen => ?_) | refine zN2 (fun hlen => ?_))
      refine zIx k hk' ?_
      repeat (first | refine gG ?_ | refine zN1 (fun hlen => ?_) | refine zN2 (fun hlen => ?_))
      refine zEl1 hat ?_
      repeat (first | refine gG ?_ | refine zN1 (fun hlen => ?_) | refine zN2 (fun hlen => ?_))
      exact ⟨k + 1, ⟨hk', hno⟩, by omega, x_wkd 0 ⟨rfl, trivial⟩ rfl (by repeat (first | exact ag_refl | refine ag_upd rfl ?_ | refine ag_at rfl rfl ?_))⟩
    · replace hyes := hyes d1
      repeat (first | refine gG ?_ | refine zN1 (fun hlen => ?_) | refine zN2 (fun hlen => ?_))
      refine zIx k hk' ?_
      repeat (first | refine gG ?_ | refine zN1 (fun hlen => ?_) | refine zN2 (fun hlen => ?_))
      refine zEl1 hat ?_
      repeat (first | refine gG ?_ | refine zN1 (fun hlen => ?_) | refine zN2 (fun hlen => ?_))
      first | refine zR ?_ | refine zQ ?_
      rw [hyes]; rfl
  · have hk' : k = l.length := by have : ¬ k < l.length := by simpa using h
                                  omega
    subst hk'
    repeat (first | refine gG ?_ | refine zN1 (fun hlen => ?_) | refine zN2 (fun hlen => ?_))
    first | refine zR ?_ | refine zQ ?_
    rw [idxAt_end hk.2]; rfl
theorem posOf_lt {s : ByteArray} {l : List ByteArray} (h : ¬ posOf s l < 0) : ∃ i : Nat, posOf s l = (i : Int) ∧ i < l.length := by
  unfold posOf at h ⊢
  obtain ⟨i, d, h1, h2, _⟩ := idxI_some h
  exact ⟨i, h1, (List.getElem?_eq_some_iff.1 h2).1⟩
theorem fldE_new {o w : Pr} {a : Ac} {p : ByteArray × Y} (h : posOf p.1 a.names < 0) : fldE o w a p = (match w.least p.2 with | some v => (0, v) | none => (8, V0)) := if_pos h
theorem fldE_old {o w : Pr} {a : Ac} {p : ByteArray × Y} {i : Nat} {y : Y} (h : posOf p.1 a.names = (i : Int)) (hy : a.types[i]? = some y) : fldE o w a p = bif sameB o w y p.2 then (0, V0) else (12, V0) := by
  unfold fldE
  rw [if_neg (by omega), h]
  simp [hy]
theorem zip_nth {α β : Type} {l : List α} {r : List β} {k : Nat} {a : α} {b : β} (h : l[k]? = some a) (h' : r[k]? = some b) : (l.zip r)[k]? = some (a, b) := by
  exact List.getElem?_zip_eq_some.2 ⟨h, h'⟩
/-- the first k fields are right -/
def GoodTo {α : Type} (bad : α → Bool) (l : List α) (k : Nat) : Prop := l.find? bad = (l.drop k).find? bad
theorem goodTo_zero {α : Type} (bad : α → Bool) (l : List α) : GoodTo bad l 0 := rfl
theorem goodTo_step {α : Type} {bad : α → Bool} {l : List α} {k : Nat} {a : α} (h : GoodTo bad l k) (ha : l[k]? = some a) (hb : bad a = false) : GoodTo bad l (k + 1) := by
  obtain ⟨h1, rfl⟩ := List.getElem?_eq_some_iff.1 ha
  unfold GoodTo at *
  rw [h, List.drop_eq_getElem_cons h1, List.find?_cons, hb]
theorem goodTo_bad {α : Type} {bad : α → Bool} {l : List α} {k : Nat} {a : α} (h : GoodTo bad l k) (ha : l[k]? = some a) (hb : bad a = true) : l.find? bad = some a := by
  obtain ⟨h1, rfl⟩ := List.getElem?_eq_some_iff.1 ha
  unfold GoodTo at h
  rw [h, List.drop_eq_getElem_cons h1, List.find?_cons, hb]
theorem goodTo_end {α : Type} {bad : α → Bool} {l : List α} (h : GoodTo bad l l.length) : l.find? bad = none := by
  unfold GoodTo at h
  rw [h, List.drop_length]; rfl
theorem flatMap_snoc {α β : Type} (f : α → List β) {l : List α} {k : Nat} {a : α} (h : l[k]? = some a) : (l.take (k + 1)).flatMap f = (l.take k).flatMap f ++ f a := by
  obtain ⟨h1, rfl⟩ := List.getElem?_eq_some_iff.1 h
  rw [List.take_succ_eq_append_getElem h1, List.flatMap_append]
  simp
theorem take_snoc' {α : Type} {l : List α} {k : Nat} {a : α} (h : l[k]? = some a) : l.take (k + 1) = l.take k ++ [a] := by
  obtain ⟨h1, rfl⟩ := List.getElem?_eq_some_iff.1 h
  exact List.take_succ_eq_append_getElem h1
/-- the fields made of the first k pairs -/
noncomputable def fldsTo (o w : Pr) (a : Ac) (l : List (ByteArray × Y)) (k : Nat) : List T := (l.take k).flatMap fun p => (fldM o w a p).ts
theorem fldsTo_zero (o w : Pr) (a : Ac) (l : List (ByteArray × Y)) : fldsTo o w a l 0 = [] := rfl
theorem fldsTo_snoc {o w : Pr} {a : Ac} {l : List (ByteArray × Y)} {k : Nat} {p : ByteArray × Y} (h : l[k]? = some p) : fldsTo o w a l (k + 1) = fldsTo o w a l k ++ (fldM o w a p).ts := flatMap_snoc _ h
theorem fldsTo_all (o w : Pr) (a : Ac) (l : List (ByteArray × Y)) : fldsTo o w a l l.length = (l.map (fldM o w a)).flatMap Fld.ts := by
  unfold fldsTo
  rw [List.take_length, List.flatMap_map]
end Go.Proofs.Ytnkafjkcjpajgaa
namespace Go.Proofs.Ytnkafjkcjpajgaa
open Go.RowKit
set_option maxRecDepth 100000 in
set_option maxHeartbeats 4000000 in
theorem plan_af (o w : Pr) (a b : Ac) (ha : a.names.length = a.types.length) (hb : b.names.length = b.types.length) (hna : a.names.length ≤ 1048576) (hnb : b.names.length ≤ 1048576) :
    AF Try.prog 70 [o.t, w.t, a.t, b.t] (· = .tup [(planR o w a b).1.t, .lit (.int .i64 (planR o w a b).2)]) := by
  have hsame := sameB_af o w
  have hfirst := First_af w
  have hix := idxName_af a.names
  have hE := fun s y (h : posOf s a.names < 0) => fldE_new (o := o) (w := w) (a := a) (p := (s, y)) h
  have hF := fun s y i (h : posOf s a.names = ((i : Nat) : Int)) z (hz : a.types[i]? = some z) => fldE_old (o := o) (w := w) (a := a) (p := (s, y)) h hz
  have hlt := fun s => @posOf_lt s a.names
  have hbad : ∀ p, badF o w a p = !decide ((fldE o w a p).1 = 0) := fun _ => rfl
  have hM : ∀ s y, (fldM o w a (s, y)).ts = .lit (.int .i64 (posOf s a.names)) :: (fldE o w a (s, y)).2.ts := fun _ _ => rfl
  have hput := fun ns m s (h : Used a ns m) => Used.put h s
  have hlook : ∀ ns m (i : Int), Used a ns m → (mget i m).getD (.lit (.bool false)) = .lit (.bool (isUsed a ns i)) := fun ns m i h => h i
  have hyes := @lostTo_yes a b.names
  have hno := @lostTo_no a b.names
  have hll := lostTo_len a b.names
  have hu0 := used_nil a
  generalize hls : w.least = ls at *
  clear hls
  unfold planR
  have hs0 := fldsTo_zero o w a
  have hsn := @fldsTo_snoc o w a
  have hsa := fldsTo_all o w a
  have hl0 : lostTo a b.names 0 = [] := rfl
  generalize sameB o w = sB at *
  generalize fldE o w a = fE at *
  generalize fldM o w a = fM at *
  generalize badF o w a = bad at *
  generalize fldsTo o w a = fT at *
  generalize Used a = U at *
  generalize isUsed a = iU at *
  generalize lostTo a b.names = lT at *
  obtain ⟨on, ov, ous, odas, otrs, oims, ofus, oacs⟩ := o
  obtain ⟨wn, wv, wus, wdas, wtrs, wims, wfus, wacs⟩ := w
  obtain ⟨an, ans, ays, ⟨ak, am, al⟩, ⟨bk, bn, bt, bns, bys, bl, brs, bp⟩⟩ := a
  obtain ⟨cn, cns, cys, ⟨ck, cm, cl⟩, ⟨dk, dn, dt, dns, dys, dl, drs, dp⟩⟩ := b
  dsimp only at *
  have hzl : (cns.zip cys).length = cns.length := by rw [List.length_zip]; omega
  refine af_enter tok Try.func70 Try.ntmps70 Try.results70 rfl (by kernel_rfl) rfl rfl fun F hX => ?_
  repeat (first | refine gG ?_ | refine zN1 (fun hlen => ?_) | refine zN2 (fun hlen => ?_) | refine zAl (fun _ => ?_) | refine zBf ?_ | refine zAp (fun _ => ?_))
  refine zMm (fun bm => ?_)
  repeat (first | refine gG ?_ | refine zN1 (fun hlen => ?_) | refine zN2 (fun hlen => ?_) | refine zAl (fun _ => ?_) | refine zBf ?_ | refine zAp (fun _ => ?_))
  rename_i b0 _ b1
  refine x_own_cell 1 2 150 5 rfl rfl rfl rfl rfl rfl ?_
  refine x_own_cell 1 3 3 1 rfl rfl rfl rfl rfl rfl ?_
  refine x_loop [9, 12, 13, 14, 15, 16, 28, 29, 30, 31, 32, 33, 34, 35, 36, 37, 38, 39, 40, 41, 42, 43, 44, 45, 46, 47, 48, 49, 50, 51, 52, 53, 54, 55, 56, 57, 58, 59, 60, 61, 62, 63, 64, 65, 66, 67, 68, 69, 70, 71, 72, 73, 74, 75, 76, 77, 78, 79, 80, 81] (fun y : Nat × List (Int × T) × Value => [(28, .c (.lit (.int .i64 (y.1 : Nat))))]) (fun y => [.box b0 129 [.c (.lit (.string ⟨#[]⟩)), .c (.lit (.int .i64 0)), .c (.lit (.slice none 0 0)), .c (.lit (.slice none 0 0))], .box b1 129 [.c (.lit (.string an)), .c (.lit (.int .i64 (ans.length : Nat))), .own 3 y.2.2, .own 4 (.slice none 0 0)], .mp bm (mkeys (Value.int .i64) y.2.1), .row y.2.2 150 5 y.1 (fT (cns.zip cys) y.1), .row (.slice none 0 0) 3 1 0 []])
    (fun y => y.1 ≤ cns.length ∧ U (cns.take y.1) y.2.1 ∧ GoodTo bad (cns.zip cys) y.1) (fun y => cns.length - y.1) (0, [], .slice none 0 0) ⟨Nat.zero_le _, hu0, goodTo_zero _ _⟩ ⟨rfl, trivial⟩ (by simp only [hs0]; rfl) ?_
  clear hu0 hs0
  rintro ⟨k, m, v⟩ ⟨hk, hU, hG⟩
  dsimp only at hk hU hG ⊢
  repeat (first | refine gG ?_ | refine zN1 (fun hlen => ?_) | refine zN2 (fun hlen => ?_) | refine zAl (fun _ => ?_) | refine zBf ?_ | refine zAp (fun _ => ?_))
  refine x_cond rfl (fun h => ?_) (fun h => ?_)
  · have hk' : k < cns.length := by simpa using h
    have hky : k < cys.length := by omega
    obtain ⟨s, hs⟩ := nth hk'
    obtain ⟨y, hy⟩ := nth hky
    have hz := zip_nth hs hy
    have hst : (cns.flatMap strTs)[k * 1]? = some (.lit (.string s)) := by rw [Nat.mul_one]; exact str_at hs
    have hyt := Y.at hy
    have hi := hix s
    have hpt := hput _ m s hU
    rw [← take_snoc' hs] at hpt
    have hsn1 := hsn hz
    rw [hM] at hsn1
    have hgs := goodTo_step hG hz
    have hgb := goodTo_bad hG hz
    have hbd := hbad (s, y)
    have hE1 := hE s y
    have hF1 := hF s y
    have hv := hfirst y
    have hsm := fun z => hsame z y
    have hlt1 := hlt s
    clear h hs hy hz hU hG hput hM hlook hyes hno hll hsa hl0 hix hbad hE hF hfirst hsame hlt hsn
    obtain ⟨yk, yn, yl⟩ := y
    generalize posOf s ans = ix at *
    by_cases hneg : ix < 0
    · have d1 : decide (ix < 0) = true := decide_eq_true hneg
      have hE2 := hE1 hneg
      clear hE1 hF1 hlt1 hsm
      cases hl : ls (.mk yk yn yl) with
      | none =>
        rw [hl] at hv hE2
        dsimp only [codeV, Option.getD] at hv hE2
        have hfd := hgb (by rw [hbd, hE2]; rfl)
        rw [hfd]
        dsimp only
        rw [hE2]
        generalize V0 = gv at hv
        obtain ⟨gk, gn, gt, gl⟩ := gv
        clear hgs hgb hbd hE2 hfd hsn1 hpt hl
        repeat (first | refine gG ?_ | refine zN1 (fun hlen => ?_) | refine zN2 (fun hlen => ?_) | refine zAl (fun _ => ?_) | refine zBf ?_ | refine zAp (fun _ => ?_))
        refine zIx k hk' ?_
        repeat (first | refine gG ?_ | refine zN1 (fun hlen => ?_) | refine zN2 (fun hlen => ?_) | refine zAl (fun _ => ?_) | refine zBf ?_ | refine zAp (fun _ => ?_))
        refine zEl1 hst ?_
        repeat (first | refine gG ?_ | refine zN1 (fun hlen => ?_) | refine zN2 (fun hlen => ?_) | refine zAl (fun _ => ?_) | refine zBf ?_ | refine zAp (fun _ => ?_))
        refine zCall (hi) ?_
        rintro _ rfl
        repeat (first | refine gG ?_ | refine zN1 (fun hlen => ?_) | refine zN2 (fun hlen => ?_) | refine zAl (fun _ => ?_) | refine zBf ?_ | refine zAp (fun _ => ?_))
        refine ac_draw [1, 1, 1, 1, 1, 1, 1, 1, 1, 0, 3, 2, 0] [0, 1, 2, 3, 4, 5, 6, 7, 8, 9, 10, 11, 12] (by kernel_rfl) (by kernel_rfl) ?_
        refine gW ?_
        apply w_q; (focus exact rfl); (focus exact rfl); focus (intro _; (refine zIx k hky ?_); exact det_refl)
        apply w_q; (focus exact rfl); (focus exact rfl); focus (intro _; (refine zEl hyt (Y.ts_len _) ?_); exact det_refl)
        apply w_q; (focus exact rfl); (focus exact rfl); focus (intro _; (refine zCall hv ?_; rintro _ rfl); exact det_refl)
        refine gW ?_
        apply w_a; (focus exact rfl); (focus exact rfl); refine v_alloc tok rfl rfl rfl (fun _ => rfl) (fun _ => ⟨⟨_, rfl⟩, ?_⟩)
        apply w_l; (focus exact rfl); (focus exact rfl); (refine zS ?_)
        refine gW ?_
        refine w_nil ?_
        repeat (first | refine gG ?_ | refine zN1 (fun hlen => ?_) | refine zN2 (fun hlen => ?_) | refine zAl (fun _ => ?_) | refine zBf ?_ | refine zAp (fun _ => ?_))
        first | refine zR (ts := [mov0.t, .lit (.int .i64 8)]) ?_ | refine zQ (ts := [mov0.t, .lit (.int .i64 8)]) ?_
        rfl
      | some x =>
        rw [hl] at hv hE2
        dsimp only [codeV, Option.getD] at hv hE2
        have hg1 := hgs (by rw [hbd, hE2]; rfl)
        rw [hE2] at hsn1
        obtain ⟨gk, gn, gt, gl⟩ := x
        clear hgs hgb hbd hE2 hl
        repeat (first | refine gG ?_ | refine zN1 (fun hlen => ?_) | refine zN2 (fun hlen => ?_) | refine zAl (fun _ => ?_) | refine zBf ?_ | refine zAp (fun _ => ?_))
        refine zIx k hk' ?_
        repeat (first | refine gG ?_ | refine zN1 (fun hlen => ?_) | refine zN2 (fun hlen => ?_) | refine zAl (fun _ => ?_) | refine zBf ?_ | refine zAp (fun _ => ?_))
        refine zEl1 hst ?_
        repeat (first | refine gG ?_ | refine zN1 (fun hlen => ?_) | refine zN2 (fun hlen => ?_) | refine zAl (fun _ => ?_) | refine zBf ?_ | refine zAp (fun _ => ?_))
        refine zCall (hi) ?_
        rintro _ rfl
        repeat (first | refine gG ?_ | refine zN1 (fun hlen => ?_) | refine zN2 (fun hlen => ?_) | refine zAl (fun _ => ?_) | refine zBf ?_ | refine zAp (fun _ => ?_))
        refine ac_draw [1, 1, 1, 1, 1, 1, 1, 1, 1, 0, 3, 2, 0] [0, 1, 2, 3, 4, 5, 6, 7, 8, 9, 10, 11, 12] (by kernel_rfl) (by kernel_rfl) ?_
        refine gW ?_
        apply w_q; (focus exact rfl); (focus exact rfl); focus (intro _; (refine zIx k hky ?_); exact det_refl)
        apply w_q; (focus exact rfl); (focus exact rfl); focus (intro _; (refine zEl hyt (Y.ts_len _) ?_); exact det_refl)
        apply w_q; (focus exact rfl); (focus exact rfl); focus (intro _; (refine zCall hv ?_; rintro _ rfl); exact det_refl)
        refine gW ?_
        apply w_a; (focus exact rfl); (focus exact rfl); refine v_alloc tok rfl rfl rfl (fun _ => rfl) (fun _ => ⟨⟨_, rfl⟩, ?_⟩)
        apply w_l; (focus exact rfl); (focus exact rfl); (refine zS ?_)
        refine gW ?_
        refine w_nil ?_
        repeat (first | refine gG ?_ | refine zN1 (fun hlen => ?_) | refine zN2 (fun hlen => ?_) | refine zAl (fun _ => ?_) | refine zBf ?_ | refine zAp (fun _ => ?_))
        refine zUpi 3 4 ?_
        repeat (first | refine gG ?_ | refine zN1 (fun hlen => ?_) | refine zN2 (fun hlen => ?_) | refine zAl (fun _ => ?_) | refine zBf ?_ | refine zAp (fun _ => ?_))
        exact ⟨(k + 1, _, _), ⟨hk', hpt, hg1⟩, by simp only; omega, x_wkd 5 ⟨rfl, trivial⟩ (by simp only [hsn1]; rfl) (by repeat (first | exact ag_refl | refine ag_upd rfl ?_ | refine ag_at rfl rfl ?_))⟩
    · obtain ⟨i, rfl, hil⟩ := hlt1 hneg
      have d1 : decide (((i : Nat) : Int) < 0) = false := decide_eq_false hneg
      have hil' : i < ays.length := by omega
      obtain ⟨z, hz⟩ := nth hil'
      have hE2 := hF1 i rfl z hz
      have hzt := Y.at hz
      have hs1 := hsm z
      clear hE1 hF1 hlt1 hsm hv hneg hz
      obtain ⟨zk, zn, zl⟩ := z
      cases hq : sB (.mk zk zn zl) (.mk yk yn yl)
      · rw [hq] at hE2 hs1
        have hfd := hgb (by rw [hbd, hE2]; rfl)
        rw [hfd]
        dsimp only
        rw [hE2]
        clear hgs hgb hbd hE2 hfd hsn1 hpt hq
        repeat (first | refine gG ?_ | refine zN1 (fun hlen => ?_) | refine zN2 (fun hlen => ?_) | refine zAl (fun _ => ?_) | refine zBf ?_ | refine zAp (fun _ => ?_))
        refine zIx k hk' ?_
        repeat (first | refine gG ?_ | refine zN1 (fun hlen => ?_) | refine zN2 (fun hlen => ?_) | refine zAl (fun _ => ?_) | refine zBf ?_ | refine zAp (fun _ => ?_))
        refine zEl1 hst ?_
        repeat (first | refine gG ?_ | refine zN1 (fun hlen => ?_) | refine zN2 (fun hlen => ?_) | refine zAl (fun _ => ?_) | refine zBf ?_ | refine zAp (fun _ => ?_))
        refine zCall (hi) ?_
        rintro _ rfl
        repeat (first | refine gG ?_ | refine zN1 (fun hlen => ?_) | refine zN2 (fun hlen => ?_) | refine zAl (fun _ => ?_) | refine zBf ?_ | refine zAp (fun _ => ?_))
        refine ac_draw [1, 1, 1, 1, 1, 1, 1, 1, 1, 1, 1, 1, 1, 1, 1] [0, 1, 2, 3, 4, 5, 6, 7, 8, 9, 10, 11, 12, 13, 14] (by kernel_rfl) (by kernel_rfl) ?_
        refine gW ?_
        apply w_q; (focus exact rfl); (focus exact rfl); focus (intro _; (refine zIx i hil' ?_); exact det_refl)
        apply w_q; (focus exact rfl); (focus exact rfl); focus (intro _; (refine zEl hzt (Y.ts_len _) ?_); exact det_refl)
        refine gW ?_
        apply w_q; (focus exact rfl); (focus exact rfl); focus (intro _; (refine zIx k hky ?_); exact det_refl)
        apply w_q; (focus exact rfl); (focus exact rfl); focus (intro _; (refine zEl hyt (Y.ts_len _) ?_); exact det_refl)
        apply w_q; (focus exact rfl); (focus exact rfl); focus (intro _; (refine zCall hs1 ?_; rintro _ rfl); exact det_refl)
        refine gW ?_
        refine w_nil ?_
        repeat (first | refine gG ?_ | refine zN1 (fun hlen => ?_) | refine zN2 (fun hlen => ?_) | refine zAl (fun _ => ?_) | refine zBf ?_ | refine zAp (fun _ => ?_))
        first | refine zR (ts := [mov0.t, .lit (.int .i64 12)]) ?_ | refine zQ (ts := [mov0.t, .lit (.int .i64 12)]) ?_
        rfl
      · rw [hq] at hE2 hs1
        have hg1 := hgs (by rw [hbd, hE2]; rfl)
        rw [hE2] at hsn1
        clear hgs hgb hbd hE2 hq
        repeat (first | refine gG ?_ | refine zN1 (fun hlen => ?_) | refine zN2 (fun hlen => ?_) | refine zAl (fun _ => ?_) | refine zBf ?_ | refine zAp (fun _ => ?_))
        refine zIx k hk' ?_
        repeat (first | refine gG ?_ | refine zN1 (fun hlen => ?_) | refine zN2 (fun hlen => ?_) | refine zAl (fun _ => ?_) | refine zBf ?_ | refine zAp (fun _ => ?_))
        refine zEl1 hst ?_
        repeat (first | refine gG ?_ | refine zN1 (fun hlen => ?_) | refine zN2 (fun hlen => ?_) | refine zAl (fun _ => ?_) | refine zBf ?_ | refine zAp (fun _ => ?_))
        refine zCall (hi) ?_
        rintro _ rfl
        repeat (first | refine gG ?_ | refine zN1 (fun hlen => ?_) | refine zN2 (fun hlen => ?_) | refine zAl (fun _ => ?_) | refine zBf ?_ | refine zAp (fun _ => ?_))
        refine ac_draw [1, 1, 1, 1, 1, 1, 1, 1, 1, 1, 1, 1, 1, 1, 1] [0, 1, 2, 3, 4, 5, 6, 7, 8, 9, 10, 11, 12, 13, 14] (by kernel_rfl) (by kernel_rfl) ?_
        refine gW ?_
        apply w_q; (focus exact rfl); (focus exact rfl); focus (intro _; (refine zIx i hil' ?_); exact det_refl)
        apply w_q; (focus exact rfl); (focus exact rfl); focus (intro _; (refine zEl hzt (Y.ts_len _) ?_); exact det_refl)
        refine gW ?_
        apply w_q; (focus exact rfl); (focus exact rfl); focus (intro _; (refine zIx k hky ?_); exact det_refl)
        apply w_q; (focus exact rfl); (focus exact rfl); focus (intro _; (refine zEl hyt (Y.ts_len _) ?_); exact det_refl)
        apply w_q; (focus exact rfl); (focus exact rfl); focus (intro _; (refine zCall hs1 ?_; rintro _ rfl); exact det_refl)
        refine gW ?_
        refine w_nil ?_
        refine x_cells 5 [.lit (.int .i64 ((i : Nat) : Int)), .lit (.int .i64 0), .lit (.int .i64 0), .lit (.string ⟨#[]⟩), V.row []] ?_
        repeat (first | refine gG ?_ | refine zN1 (fun hlen => ?_) | refine zN2 (fun hlen => ?_) | refine zAl (fun _ => ?_) | refine zBf ?_ | refine zAp (fun _ => ?_))
        refine zUpi 3 4 ?_
        repeat (first | refine gG ?_ | refine zN1 (fun hlen => ?_) | refine zN2 (fun hlen => ?_) | refine zAl (fun _ => ?_) | refine zBf ?_ | refine zAp (fun _ => ?_))
        exact ⟨(k + 1, _, _), ⟨hk', hpt, hg1⟩, by simp only; omega, x_wkd 5 ⟨rfl, trivial⟩ (by simp only [hsn1]; rfl) (by repeat (first | exact ag_refl | refine ag_upd rfl ?_ | refine ag_at rfl rfl ?_))⟩
  · have hk' : k = cns.length := by have : ¬ k < cns.length := by simpa using h
                                    omega
    subst hk'
    have hfn := goodTo_end (by rw [hzl]; exact hG)
    rw [hfn]
    rw [List.take_length] at hU
    have hsa1 := hsa (cns.zip cys)
    rw [hzl] at hsa1
    have hlk := fun i => hlook cns m i hU
    clear h hG hfn hput hM hlook hsa hix hbad hE hF hfirst hsame hlt hsn hU
    repeat (first | refine gG ?_ | refine zN1 (fun hlen => ?_) | refine zN2 (fun hlen => ?_) | refine zAl (fun _ => ?_) | refine zBf ?_ | refine zAp (fun _ => ?_))
    refine x_loop [17, 85, 86, 87, 88, 89, 90, 91, 92, 93, 94, 95, 96, 97, 98] (fun y : Nat × Value => [(85, .c (.lit (.int .i64 (y.1 : Nat))))]) (fun y => [.box b0 129 [.c (.lit (.string ⟨#[]⟩)), .c (.lit (.int .i64 0)), .c (.lit (.slice none 0 0)), .c (.lit (.slice none 0 0))], .box b1 129 [.c (.lit (.string an)), .c (.lit (.int .i64 (ans.length : Nat))), .own 3 v, .own 4 y.2], .mp bm (mkeys (Value.int .i64) m), .row v 150 5 cns.length (fT (cns.zip cys) cns.length), .row y.2 3 1 (lT y.1).length ((lT y.1).flatMap intTs)])
      (fun y => y.1 ≤ ans.length) (fun y => ans.length - y.1) (0, .slice none 0 0) (Nat.zero_le _) ⟨rfl, trivial⟩ (by simp only [hl0]; rfl) ?_
    clear hl0
    rintro ⟨j, v2⟩ hj
    dsimp only at hj ⊢
    have hll1 := hll j
    clear hll
    repeat (first | refine gG ?_ | refine zN1 (fun hlen => ?_) | refine zN2 (fun hlen => ?_) | refine zAl (fun _ => ?_) | refine zBf ?_ | refine zAp (fun _ => ?_))
    refine x_cond rfl (fun h => ?_) (fun h => ?_)
    · have hj' : j < ans.length := by simpa using h
      have hlk1 := hlk (j : Int)
      have hy1 := @hyes j
      have hn1 := @hno j
      clear hsa1 hlk hyes hno h
      cases hq : iU cns ((j : Nat) : Int)
      · replace hn1 := hn1 hq
        rw [hq] at hlk1
        clear hy1 hq
        repeat (first | refine gG ?_ | refine zN1 (fun hlen => ?_) | refine zN2 (fun hlen => ?_) | refine zAl (fun _ => ?_) | refine zBf ?_ | refine zAp (fun _ => ?_))
        refine zLki 3 4 hlk1 ?_
        repeat (first | refine gG ?_ | refine zN1 (fun hlen => ?_) | refine zN2 (fun hlen => ?_) | refine zAl (fun _ => ?_) | refine zBf ?_ | refine zAp (fun _ => ?_))
        exact ⟨(j + 1, _), hj', by simp only; omega, x_wkd 5 ⟨rfl, trivial⟩ (by simp only [hn1, List.flatMap_append, List.length_append]; rfl) (by repeat (first | exact ag_refl | refine ag_upd rfl ?_ | refine ag_at rfl rfl ?_))⟩
      · replace hy1 := hy1 hq
        rw [hq] at hlk1
        clear hn1 hq
        repeat (first | refine gG ?_ | refine zN1 (fun hlen => ?_) | refine zN2 (fun hlen => ?_) | refine zAl (fun _ => ?_) | refine zBf ?_ | refine zAp (fun _ => ?_))
        refine zLki 3 4 hlk1 ?_
        repeat (first | refine gG ?_ | refine zN1 (fun hlen => ?_) | refine zN2 (fun hlen => ?_) | refine zAl (fun _ => ?_) | refine zBf ?_ | refine zAp (fun _ => ?_))
        exact ⟨(j + 1, v2), hj', by simp only; omega, x_wkd 5 ⟨rfl, trivial⟩ (by simp only [hy1]; rfl) (by repeat (first | exact ag_refl | refine ag_upd rfl ?_ | refine ag_at rfl rfl ?_))⟩
    · have hj' : j = ans.length := by have : ¬ j < ans.length := by simpa using h
                                      omega
      subst hj'
      clear h hlk hyes hno
      repeat (first | refine gG ?_ | refine zN1 (fun hlen => ?_) | refine zN2 (fun hlen => ?_) | refine zAl (fun _ => ?_) | refine zBf ?_ | refine zAp (fun _ => ?_))
      first | refine zR (ts := [.agg [.lit (.string an), .lit (.int .i64 (ans.length : Nat)), .row cns.length 5 (fT (cns.zip cys) cns.length), intRow (lT ans.length)], .lit (.int .i64 0)]) ?_ | refine zQ (ts := [.agg [.lit (.string an), .lit (.int .i64 (ans.length : Nat)), .row cns.length 5 (fT (cns.zip cys) cns.length), intRow (lT ans.length)], .lit (.int .i64 0)]) ?_
      rw [hsa1]
      simp only [Mov.t, Mov.ts, fldRow, List.length_map, hzl, outT]
end Go.Proofs.Ytnkafjkcjpajgaa
namespace Go.Proofs.Ytnkafjkcjpajgaa
open Go.RowKit
/-- what becomes of one actor -/
noncomputable def oneR (o w : Pr) (a : Ac) : Mov × Int := match w.actor a.name with
  | none => (mov0, 4)
  | some b => bif !decide (a.types.length = a.names.length) || !decide (b.types.length = b.names.length) then (mov0, 3) else bif !sameB o w a.msg b.msg then (mov0, 12) else planR o w a b
theorem wayR_bad {o w : Pr} {a : Ac} {l : List Ac} (h : (oneR o w a).2 ≠ 0) : wayR o w (a :: l) = ([], (oneR o w a).2) := by
  rw [wayR]
  unfold oneR at h ⊢
  cases ha : w.actor a.name with
  | none => rfl
  | some b =>
    rw [ha] at h
    dsimp only at h ⊢
    cases h1 : (!decide (a.types.length = a.names.length) || !decide (b.types.length = b.names.length))
    · rw [h1] at h
      simp only [cond_false] at h ⊢
      cases h2 : !sameB o w a.msg b.msg
      · rw [h2] at h
        simp only [cond_false] at h ⊢
        rw [if_neg h]
      · rfl
    · rfl
theorem wayR_good {o w : Pr} {a : Ac} {l : List Ac} (h : (oneR o w a).2 = 0) : wayR o w (a :: l) = bif decide ((wayR o w l).2 = 0) then ((oneR o w a).1 :: (wayR o w l).1, 0) else ([], (wayR o w l).2) := by
  rw [wayR]
  unfold oneR at h ⊢
  cases ha : w.actor a.name with
  | none => rw [ha] at h; cases h
  | some b =>
    rw [ha] at h
    dsimp only at h ⊢
    cases h1 : (!decide (a.types.length = a.names.length) || !decide (b.types.length = b.names.length))
    · rw [h1] at h
      simp only [cond_false] at h ⊢
      cases h2 : !sameB o w a.msg b.msg
      · rw [h2] at h
        simp only [cond_false] at h ⊢
        rw [if_pos h]
      · rw [h2] at h; cases h
    · rw [h1] at h; cases h
theorem wayR_err (o w : Pr) : ∀ l, (wayR o w l).2 ≠ 0 → (wayR o w l).1 = []
  | [], _ => rfl
  | a :: l, h => by
    by_cases h1 : (oneR o w a).2 = 0
    · rw [wayR_good h1] at h ⊢
      cases h2 : decide ((wayR o w l).2 = 0)
      · rfl
      · rw [h2] at h; exact absurd rfl h
    · rw [wayR_bad h1]
def WayTo (o w : Pr) (l : List Ac) (k : Nat) (pre : List Mov) : Prop := wayR o w l = bif decide ((wayR o w (l.drop k)).2 = 0) then (pre ++ (wayR o w (l.drop k)).1, 0) else ([], (wayR o w (l.drop k)).2)
theorem wayTo_zero (o w : Pr) (l : List Ac) : WayTo o w l 0 [] := by
  unfold WayTo
  rw [List.drop_zero]
  cases h : decide ((wayR o w l).2 = 0)
  · have := wayR_err o w l (of_decide_eq_false h)
    exact Prod.ext this rfl
  · exact Prod.ext rfl (of_decide_eq_true h)
theorem wayTo_bad {o w : Pr} {l : List Ac} {k : Nat} {pre : List Mov} {a : Ac} (h : WayTo o w l k pre) (ha : l[k]? = some a) (hb : (oneR o w a).2 ≠ 0) : wayR o w l = ([], (oneR o w a).2) := by
  obtain ⟨h1, rfl⟩ := List.getElem?_eq_some_iff.1 ha
  unfold WayTo at h
  rw [h, List.drop_eq_getElem_cons h1, wayR_bad hb]
  dsimp only
  rw [decide_eq_false hb]; rfl
theorem wayTo_step {o w : Pr} {l : List Ac} {k : Nat} {pre : List Mov} {a : Ac} (h : WayTo o w l k pre) (ha : l[k]? = some a) (hb : (oneR o w a).2 = 0) : WayTo o w l (k + 1) (pre ++ [(oneR o w a).1]) := by
  obtain ⟨h1, rfl⟩ := List.getElem?_eq_some_iff.1 ha
  unfold WayTo at h ⊢
  rw [h, List.drop_eq_getElem_cons h1, wayR_good hb]
  cases h2 : decide ((wayR o w (l.drop (k + 1))).2 = 0)
  · simp only [cond_false]
    rw [h2]; rfl
  · simp only [cond_true, List.append_assoc, List.cons_append, List.nil_append]
    rfl
theorem wayTo_end {o w : Pr} {l : List Ac} {pre : List Mov} (h : WayTo o w l l.length pre) : wayR o w l = (pre, 0) := by
  unfold WayTo at h
  rw [h, List.drop_length, wayR]
  simp
theorem planR_bare (o w : Pr) (a b : Ac) : planR o w a b.bare = planR o w a b := rfl
theorem acs_small {p : Pr} (hp : p.size ≤ 1048576) : p.actors.length ≤ 1048576 ∧ ∀ a ∈ p.actors, a.names.length ≤ 1048576 := by
  constructor
  · obtain ⟨pn, pv, us, das, trs, ims, fus, acs⟩ := p
    simp only [Pr.size] at hp
    have := Ac.len_sizes acs
    dsimp only
    omega
  · intro a ha
    have := Ac.size_mem ha
    obtain ⟨pn, pv, us, das, trs, ims, fus, acs⟩ := p
    simp only [Pr.size] at hp
    dsimp only at this
    obtain ⟨an, ans, ays, am, ab⟩ := a
    simp only [Ac.size] at this
    have hlen : ans.length ≤ strSize ans := strSize_len ans
    dsimp only
    omega
set_option maxRecDepth 100000 in
set_option maxHeartbeats 4000000 in
theorem planAll_af (o w : Pr) (ho : o.size ≤ 1048576) (hw : w.size ≤ 1048576) : AF Try.prog 31 [o.t, w.t] (· = .tup [wayT (wayR o w o.actors).1, .lit (.int .i64 (wayR o w o.actors).2)]) := by
  have hact := fun n => actor_af w n hw
  have hsame := sameB_af o w
  obtain ⟨hol, hos⟩ := acs_small ho
  have hws : ∀ n b, w.actor n = some b → b.names.length ≤ 1048576 := fun n b h => (acs_small hw).2 b (List.mem_of_find?_eq_some h)
  have hplan := fun a b => plan_af o w a (Ac.bare b)
  have hT0 := wayTo_zero o w o.actors
  have hTb := @wayTo_bad o w o.actors
  have hTs := @wayTo_step o w o.actors
  have hTe := @wayTo_end o w o.actors
  have hone : ∀ a, oneR o w a = match w.actor a.name with
    | none => (mov0, 4)
    | some b => bif !decide (a.types.length = a.names.length) || !decide (b.types.length = b.names.length) then (mov0, 3) else bif !sameB o w a.msg b.msg then (mov0, 12) else planR o w a b := fun _ => rfl
  simp only [planR_bare] at hplan
  clear ho hw
  generalize w.actor = act at *
  generalize sameB o w = sB at *
  generalize planR o w = pl at *
  generalize oneR o w = oR at *
  generalize WayTo o w o.actors = W at *
  generalize wayR o w o.actors = wr at *
  obtain ⟨on, ov, ous, odas, otrs, oims, ofus, acs⟩ := o
  obtain ⟨wn, wv, wus, wdas, wtrs, wims, wfus, wacs⟩ := w
  dsimp only at *
  refine af_enter tok Try.func31 Try.ntmps31 Try.results31 rfl (by kernel_rfl) rfl rfl fun F hX => ?_
  repeat (first | refine gG ?_ | refine zN1 (fun hlen => ?_) | refine zN2 (fun hlen => ?_) | refine zAl (fun _ => ?_) | refine zBf ?_ | refine zAp (fun _ => ?_))
  rename_i b0 b1
  refine x_own_cell 1 0 129 4 rfl rfl rfl rfl rfl rfl ?_
  refine x_loop [5, 8, 9, 10, 11, 12, 16, 17, 18, 19, 20, 21, 22, 23, 24, 25, 26, 27, 28, 29, 30, 31, 32, 33, 34, 35, 36, 37, 38, 39, 40, 41, 42, 43, 44, 45, 46, 47, 48, 49, 50, 51, 52, 53, 54, 55, 56, 57, 58, 59, 60, 61, 62, 63, 64, 65, 66, 67, 68, 69, 70, 71, 72, 73, 74, 75, 76, 77] (fun y : Nat × Value × List Mov => [(16, .c (.lit (.int .i64 (y.1 : Nat))))]) (fun y => [.box b0 78 [.c (.lit (.slice none 0 0))], .box b1 78 [.own 2 y.2.1], .row y.2.1 129 4 y.2.2.length (y.2.2.flatMap Mov.ts)])
    (fun y => y.1 ≤ acs.length ∧ y.2.2.length = y.1 ∧ W y.1 y.2.2) (fun y => acs.length - y.1) (0, .slice none 0 0, []) ⟨Nat.zero_le _, rfl, hT0⟩ ⟨rfl, trivial⟩ rfl ?_
  clear hT0
  rintro ⟨k, v, ms⟩ ⟨hk, hml, hW⟩
  dsimp only at hk hml hW ⊢
  repeat (first | refine gG ?_ | refine zN1 (fun hlen => ?_) | refine zN2 (fun hlen => ?_) | refine zAl (fun _ => ?_) | refine zBf ?_ | refine zAp (fun _ => ?_))
  refine x_cond rfl (fun h => ?_) (fun h => ?_)
  · have hk' : k < acs.length := by simpa using h
    obtain ⟨a, ha⟩ := nth hk'
    have hat := Ac.at ha
    have hb1 := hTb hW ha
    have hs1 := hTs hW ha
    have hac := hact a.name
    have hpa := hplan a
    have has := hos a (List.mem_of_getElem? ha)
    have hwb := hws a.name
    rw [hone a] at hb1 hs1
    have hsm := fun b => hsame a.msg b
    clear h ha hW hTb hTs hTe hact hplan hos hws hone hsame
    obtain ⟨an, ans, ays, ⟨ak, am, al⟩, ⟨bk, bn, bt, bns, bys, bl, brs, bp⟩⟩ := a
    dsimp only at hac hpa has hwb hb1 hs1 hsm
    cases hq : act an with
    | none =>
      rw [hq] at hac hb1
      have hr := hb1 (by show (4 : Int) ≠ 0; omega)
      rw [hr]
      clear hr hb1 hs1 hpa hwb hq hsm
      unfold ac0 ex0 at hac
      dsimp only [Option.map, Option.getD, Option.isSome] at hac
      repeat (first | refine gG ?_ | refine zN1 (fun hlen => ?_) | refine zN2 (fun hlen => ?_) | refine zAl (fun _ => ?_) | refine zBf ?_ | refine zAp (fun _ => ?_))
      refine zIx (k) (hk') ?_
      repeat (first | refine gG ?_ | refine zN1 (fun hlen => ?_) | refine zN2 (fun hlen => ?_) | refine zAl (fun _ => ?_) | refine zBx (fun _ => ?_) | refine zAp (fun _ => ?_))
      refine zEl (hat) (Ac.ts_len _) ?_
      repeat (first | refine gG ?_ | refine zN1 (fun hlen => ?_) | refine zN2 (fun hlen => ?_) | refine zAl (fun _ => ?_) | refine zBf ?_ | refine zAp (fun _ => ?_))
      refine zCall (hac) ?_
      rintro _ rfl
      repeat (first | refine gG ?_ | refine zN1 (fun hlen => ?_) | refine zN2 (fun hlen => ?_) | refine zAl (fun _ => ?_) | refine zBf ?_ | refine zAp (fun _ => ?_))
      first | refine zR (ts := [wayT [], .lit (.int .i64 4)]) ?_ | refine zQ (ts := [wayT [], .lit (.int .i64 4)]) ?_
      rfl
    | some b =>
      rw [hq] at hac hb1 hs1
      have hbs := hwb b hq
      have hpb := hpa b
      have hsb := hsm b.msg
      clear hpa hwb hq hsm
      obtain ⟨cn, cns, cys, ⟨ck, cm, cl⟩, cb⟩ := b
      unfold Ac.bare ex0 at hac hpb
      dsimp only [Option.map, Option.getD, Option.isSome] at hac hpb hb1 hs1 hsb hbs
      cases d1 : decide ((ays.length : Int) = (ans.length : Int))
      · have hne : ¬ ays.length = ans.length := by have := of_decide_eq_false d1; omega
        rw [decide_eq_false hne] at hb1
        have hr := hb1 (by show (3 : Int) ≠ 0; omega)
        rw [hr]
        clear hr hb1 hs1 hpb hsb
        repeat (first | refine gG ?_ | refine zN1 (fun hlen => ?_) | refine zN2 (fun hlen => ?_) | refine zAl (fun _ => ?_) | refine zBf ?_ | refine zAp (fun _ => ?_))
        refine zIx (k) (hk') ?_
        repeat (first | refine gG ?_ | refine zN1 (fun hlen => ?_) | refine zN2 (fun hlen => ?_) | refine zAl (fun _ => ?_) | refine zBx (fun _ => ?_) | refine zAp (fun _ => ?_))
        refine zEl (hat) (Ac.ts_len _) ?_
        repeat (first | refine gG ?_ | refine zN1 (fun hlen => ?_) | refine zN2 (fun hlen => ?_) | refine zAl (fun _ => ?_) | refine zBf ?_ | refine zAp (fun _ => ?_))
        refine zCall (hac) ?_
        rintro _ rfl
        repeat (first | refine gG ?_ | refine zN1 (fun hlen => ?_) | refine zN2 (fun hlen => ?_) | refine zAl (fun _ => ?_) | refine zBf ?_ | refine zAp (fun _ => ?_))
        first | refine zR (ts := [wayT [], .lit (.int .i64 3)]) ?_ | refine zQ (ts := [wayT [], .lit (.int .i64 3)]) ?_
        rfl
      have he1 : ays.length = ans.length := by have := of_decide_eq_true d1; omega
      rw [decide_eq_true he1] at hb1 hs1
      cases d2 : decide ((cys.length : Int) = (cns.length : Int))
      · have hne : ¬ cys.length = cns.length := by have := of_decide_eq_false d2; omega
        rw [decide_eq_false hne] at hb1
        have hr := hb1 (by show (3 : Int) ≠ 0; omega)
        rw [hr]
        clear hr hb1 hs1 hpb hsb
        repeat (first | refine gG ?_ | refine zN1 (fun hlen => ?_) | refine zN2 (fun hlen => ?_) | refine zAl (fun _ => ?_) | refine zBf ?_ | refine zAp (fun _ => ?_))
        refine zIx (k) (hk') ?_
        repeat (first | refine gG ?_ | refine zN1 (fun hlen => ?_) | refine zN2 (fun hlen => ?_) | refine zAl (fun _ => ?_) | refine zBx (fun _ => ?_) | refine zAp (fun _ => ?_))
        refine zEl (hat) (Ac.ts_len _) ?_
        repeat (first | refine gG ?_ | refine zN1 (fun hlen => ?_) | refine zN2 (fun hlen => ?_) | refine zAl (fun _ => ?_) | refine zBf ?_ | refine zAp (fun _ => ?_))
        refine zCall (hac) ?_
        rintro _ rfl
        repeat (first | refine gG ?_ | refine zN1 (fun hlen => ?_) | refine zN2 (fun hlen => ?_) | refine zAl (fun _ => ?_) | refine zBf ?_ | refine zAp (fun _ => ?_))
        first | refine zR (ts := [wayT [], .lit (.int .i64 3)]) ?_ | refine zQ (ts := [wayT [], .lit (.int .i64 3)]) ?_
        rfl
      have he2 : cys.length = cns.length := by have := of_decide_eq_true d2; omega
      rw [decide_eq_true he2] at hb1 hs1
      simp only [Bool.not_true, Bool.or_self, cond_false] at hb1 hs1
      cases hz : sB (.mk ak am al) (.mk ck cm cl)
      · rw [hz] at hb1 hsb
        have hr := hb1 (by show (12 : Int) ≠ 0; omega)
        rw [hr]
        clear hr hb1 hs1 hpb
        repeat (first | refine gG ?_ | refine zN1 (fun hlen => ?_) | refine zN2 (fun hlen => ?_) | refine zAl (fun _ => ?_) | refine zBf ?_ | refine zAp (fun _ => ?_))
        refine zIx (k) (hk') ?_
        repeat (first | refine gG ?_ | refine zN1 (fun hlen => ?_) | refine zN2 (fun hlen => ?_) | refine zAl (fun _ => ?_) | refine zBx (fun _ => ?_) | refine zAp (fun _ => ?_))
        refine zEl (hat) (Ac.ts_len _) ?_
        repeat (first | refine gG ?_ | refine zN1 (fun hlen => ?_) | refine zN2 (fun hlen => ?_) | refine zAl (fun _ => ?_) | refine zBf ?_ | refine zAp (fun _ => ?_))
        refine zCall (hac) ?_
        rintro _ rfl
        repeat (first | refine gG ?_ | refine zN1 (fun hlen => ?_) | refine zN2 (fun hlen => ?_) | refine zAl (fun _ => ?_) | refine zBf ?_ | refine zAp (fun _ => ?_))
        refine zCall (hsb) ?_
        rintro _ rfl
        repeat (first | refine gG ?_ | refine zN1 (fun hlen => ?_) | refine zN2 (fun hlen => ?_) | refine zAl (fun _ => ?_) | refine zBf ?_ | refine zAp (fun _ => ?_))
        first | refine zR (ts := [wayT [], .lit (.int .i64 12)]) ?_ | refine zQ (ts := [wayT [], .lit (.int .i64 12)]) ?_
        rfl
      rw [hz] at hb1 hs1 hsb
      simp only [Bool.not_true, cond_false] at hb1 hs1
      have hp := hpb he1.symm he2.symm has hbs
      clear hpb hz
      generalize pl ⟨an, ans, ays, .mk ak am al, .mk bk bn bt bns bys bl brs bp⟩ ⟨cn, cns, cys, .mk ck cm cl, cb⟩ = pr at *
      obtain ⟨⟨mn, mc, mf, mo⟩, pe⟩ := pr
      dsimp only at hb1 hs1 hp
      cases d3 : decide (pe = 0)
      · have hr := hb1 (of_decide_eq_false d3)
        rw [hr]
        clear hr hb1 hs1
        repeat (first | refine gG ?_ | refine zN1 (fun hlen => ?_) | refine zN2 (fun hlen => ?_) | refine zAl (fun _ => ?_) | refine zBf ?_ | refine zAp (fun _ => ?_))
        refine zIx (k) (hk') ?_
        repeat (first | refine gG ?_ | refine zN1 (fun hlen => ?_) | refine zN2 (fun hlen => ?_) | refine zAl (fun _ => ?_) | refine zBx (fun _ => ?_) | refine zAp (fun _ => ?_))
        refine zEl (hat) (Ac.ts_len _) ?_
        repeat (first | refine gG ?_ | refine zN1 (fun hlen => ?_) | refine zN2 (fun hlen => ?_) | refine zAl (fun _ => ?_) | refine zBf ?_ | refine zAp (fun _ => ?_))
        refine zCall (hac) ?_
        rintro _ rfl
        repeat (first | refine gG ?_ | refine zN1 (fun hlen => ?_) | refine zN2 (fun hlen => ?_) | refine zAl (fun _ => ?_) | refine zBf ?_ | refine zAp (fun _ => ?_))
        refine zCall (hsb) ?_
        rintro _ rfl
        repeat (first | refine gG ?_ | refine zN1 (fun hlen => ?_) | refine zN2 (fun hlen => ?_) | refine zAl (fun _ => ?_) | refine zBf ?_ | refine zAp (fun _ => ?_))
        refine zCall (hp) ?_
        rintro _ rfl
        repeat (first | refine gG ?_ | refine zN1 (fun hlen => ?_) | refine zN2 (fun hlen => ?_) | refine zAl (fun _ => ?_) | refine zBf ?_ | refine zAp (fun _ => ?_))
        first | refine zR (ts := [wayT [], .lit (.int .i64 pe)]) ?_ | refine zQ (ts := [wayT [], .lit (.int .i64 pe)]) ?_
        rfl
      · obtain rfl := of_decide_eq_true d3
        have hs2 := hs1 rfl
        clear hb1 hs1
        repeat (first | refine gG ?_ | refine zN1 (fun hlen => ?_) | refine zN2 (fun hlen => ?_) | refine zAl (fun _ => ?_) | refine zBf ?_ | refine zAp (fun _ => ?_))
        refine zIx (k) (hk') ?_
        repeat (first | refine gG ?_ | refine zN1 (fun hlen => ?_) | refine zN2 (fun hlen => ?_) | refine zAl (fun _ => ?_) | refine zBx (fun _ => ?_) | refine zAp (fun _ => ?_))
        refine zEl (hat) (Ac.ts_len _) ?_
        repeat (first | refine gG ?_ | refine zN1 (fun hlen => ?_) | refine zN2 (fun hlen => ?_) | refine zAl (fun _ => ?_) | refine zBf ?_ | refine zAp (fun _ => ?_))
        refine zCall (hac) ?_
        rintro _ rfl
        repeat (first | refine gG ?_ | refine zN1 (fun hlen => ?_) | refine zN2 (fun hlen => ?_) | refine zAl (fun _ => ?_) | refine zBf ?_ | refine zAp (fun _ => ?_))
        refine zCall (hsb) ?_
        rintro _ rfl
        repeat (first | refine gG ?_ | refine zN1 (fun hlen => ?_) | refine zN2 (fun hlen => ?_) | refine zAl (fun _ => ?_) | refine zBf ?_ | refine zAp (fun _ => ?_))
        refine zCall (hp) ?_
        rintro _ rfl
        repeat (first | refine gG ?_ | refine zN1 (fun hlen => ?_) | refine zN2 (fun hlen => ?_) | refine zAl (fun _ => ?_) | refine zBf ?_ | refine zAp (fun _ => ?_))
        exact ⟨(k + 1, _, ms ++ [⟨mn, mc, mf, mo⟩]), ⟨hk', by simp [hml], hs2⟩, by simp only; omega, x_wkd 3 ⟨rfl, trivial⟩ (by simp only [List.flatMap_append, List.length_append]; rfl) (by repeat (first | exact ag_refl | refine ag_upd rfl ?_ | refine ag_at rfl rfl ?_))⟩
  · have hk' : k = acs.length := by have : ¬ k < acs.length := by simpa using h
                                    omega
    subst hk'
    have hr := hTe hW
    rw [hr]
    clear hr h hW hTb hTs hTe hact hplan hos hws hone hsame
    repeat (first | refine gG ?_ | refine zN1 (fun hlen => ?_) | refine zN2 (fun hlen => ?_) | refine zAl (fun _ => ?_) | refine zBf ?_ | refine zAp (fun _ => ?_))
    first | refine zR (ts := [wayT ms, .lit (.int .i64 0)]) ?_ | refine zQ (ts := [wayT ms, .lit (.int .i64 0)]) ?_
    rfl
end Go.Proofs.Ytnkafjkcjpajgaa
namespace Go.Proofs.Ytnkafjkcjpajgaa
open Go.RowKit
section
variable {F : Frm} {τ : Nat → AV} {hp : List Blk} {N : Nat}
theorem wk_fzc (i j : Nat) {q b : Nat} {v : Value} {e t : TypeId} {sz n : Nat} {ts : List T} {cs cs' : List AV} {hp' : List Blk} (hi : hp[i]? = some (.box b t cs)) (hj : cs[j]? = some (.own q v)) (hq : hp[q]? = some (.row v e sz n ts)) (hiq : Nat.beq i q = false) (hc : evl (cs.set j (.c (.row n sz ts))) = some cs') (hf : evl ((hp.set q .dead).set i (.box b t cs')) = some hp') : Wk F ⟨τ, hp, N⟩ ⟨τ, hp', N⟩ := by
  intro M a w hr
  have hne : i ≠ q := fun e => by rw [e, Nat.beq_refl] at hiq; cases hiq
  obtain ⟨h1, h2⟩ := heap_frz hr.heap hq
  have hi' : (hp.set q .dead)[i]? = some (.box b t cs) := by rw [List.getElem?_set_ne (Ne.symm hne)]; exact hi
  have hlt : i < (hp.set q .dead).length := (List.getElem?_eq_some_iff.1 hi').1
  have h3 : HeapOk F (frB M v.ownBlock w) ((hp.set q .dead).set i (.box b t cs')) w := by
    refine h1.step i rfl rfl rfl (Nat.le_refl _) (fun _ _ _ => rfl) (Ext.refl _ _) (fun p v h1 h2 => by rw [h2] at h1; cases h1) (fun m hm => by rw [List.getElem?_set_ne (Ne.symm hm)]) (fun x' hx' => ?_)
    rw [List.getElem?_set_self hlt] at hx'
    obtain rfl : Blk.box b t cs' = x' := by injection hx'
    obtain ⟨xs, g1, g2, g3⟩ := h1.at_ i _ hi'
    refine ⟨⟨xs, g1, ?_, g3⟩, fun b' hb' => .inl ⟨_, hi', hb'⟩⟩
    rw [evl_eq hc]
    obtain ⟨x, hx, hxr⟩ := g2.get hj
    simp only [RA] at hxr
    have hjl : j < xs.length := (List.getElem?_eq_some_iff.1 hx).1
    have hxj : xs[j] = x := by rw [List.getElem?_eq_getElem hjl] at hx; injection hx
    have : RAs (frB M v.ownBlock w) (cs.set j (.c (.row n sz ts))) (xs.set j x) := RAs.set j g2 (by simp only [RA]; rw [hxr.1]; exact h2)
    rwa [show xs.set j x = xs from by rw [← hxj]; exact List.set_getElem_self hjl] at this
  exact ⟨_, fun k => RA.mono (frB_sub _ _ _) _ _ (hr.tmps k), hr.size, hr.defers, by rw [evl_eq hf]; exact h3⟩
theorem x_fzc {P : Program} {Q : Exit → AS → Prop} {c : Code} (i j : Nat) {q b : Nat} {v : Value} {e t : TypeId} {sz n : Nat} {ts : List T} {cs cs' : List AV} {hp' : List Blk} (h : AC P F c Q ⟨τ, hp', N⟩) (hi : hp[i]? = some (.box b t cs) := by exact rfl) (hj : cs[j]? = some (.own q v) := by exact rfl) (hq : hp[q]? = some (.row v e sz n ts) := by exact rfl) (hiq : Nat.beq i q = false := by exact rfl) (hc : evl (cs.set j (.c (.row n sz ts))) = some cs' := by exact rfl) (hf : evl ((hp.set q .dead).set i (.box b t cs')) = some hp' := by exact rfl) : AC P F c Q ⟨τ, hp, N⟩ :=
  ac_wk (wk_fzc i j hi hj hq hiq hc hf) h
end
end Go.Proofs.Ytnkafjkcjpajgaa
