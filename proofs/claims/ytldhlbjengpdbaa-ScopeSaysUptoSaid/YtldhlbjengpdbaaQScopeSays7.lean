/-
  Texts of this proof, part 7: Tnl Tnm Wsa Ab32 Ab33 Ab34 Ab37 Ab38 Ab39 Ab40 Ab41 NamePlain Tka Ab44 Wsc Vsk Tno.
-/
import Derived.Test.YtldhlbjengpdbaaQScopeSays6
import Derived.Laws.IdiomRangeMap
import Derived.Lib.AppendStr
import Derived.Lib.AppendZerosOnto
import Derived.Lib.MinMax
import Derived.Shelf.SlIter.Nil
import Derived.Shelf.Slices.CompactS
import Derived.Shelf.SortM.Plain
import Derived.Shelf.SortM.SortNone
import Derived.Sort.Walk0
import Derived.Test.YtldhlbjengpdbaaProg
namespace Go.Proofs.Ytldhlbjengpdbaa
open Go.RowKit
/-- the names that mean something in the i-th part -/
def inner (k : Int) (t : ByteArray) (ns : List ByteArray) (i : Nat) : List ByteArray := bif decide (k = 10) then ns else bif decide (k = 6) && decide ((i : Int) = 1) then [t] else []
theorem sum_le_of {α : Type} {f g : α → Nat} : ∀ {l : List α}, (∀ a ∈ l, f a ≤ g a) → (l.map f).sum ≤ (l.map g).sum
  | [], _ => Nat.le_refl _
  | a :: l, h => by
    have := h a (by simp)
    have := sum_le_of (l := l) (fun x hx => h x (List.mem_cons_of_mem _ hx))
    simp only [List.map_cons, List.sum_cons]
    omega
theorem V.nodes_mass (v : V) : v.nodes ≤ v.mass := by
  induction v using V.ind with
  | h k n t l ih =>
    have := sum_le_of ih
    rw [V.nodes, V.nodesAll_sum, V.mass, V.masses_sum]
    omega
/-- the maps say what is gathered, and how often a name is bound -/
def SeenOk (m : List (ByteArray × T)) (out : List ByteArray) : Prop := ∀ s, (mget s m).getD (.lit (.bool false)) = .lit (.bool (hasS out s))
def times (s : ByteArray) (B : List ByteArray) : Nat := (B.filter fun x => decide (x = s)).length
def BndOk (m : List (ByteArray × T)) (B : List ByteArray) : Prop := ∀ s, (mget s m).getD (.lit (.int .i64 0)) = .lit (.int .i64 (times s B : Nat))
theorem times_app (s : ByteArray) (A B : List ByteArray) : times s (A ++ B) = times s A + times s B := by simp [times]
theorem times_le (s : ByteArray) (B : List ByteArray) : times s B ≤ B.length := List.length_filter_le _ _
theorem hasS_times (s : ByteArray) : ∀ B : List ByteArray, hasS B s = !decide ((times s B : Nat) = (0 : Int))
  | [] => rfl
  | x :: B => by
    have ih := hasS_times s B
    simp only [hasS, List.any_cons, times, List.filter_cons] at ih ⊢
    rw [ih]
    by_cases h : x = s
    · simp [h]; omega
    · simp [h]
theorem SeenOk.put {m : List (ByteArray × T)} {out : List ByteArray} (h : SeenOk m out) (s : ByteArray) : SeenOk (mput s (.lit (.bool true)) m) (out ++ [s]) := by
  intro x
  rw [mget_put, hasS_app, hasS_one]
  by_cases hx : x = s
  · subst hx; simp
  · rw [if_neg hx, h x]; simp [Ne.symm hx]
theorem BndOk.put {m : List (ByteArray × T)} {B B' : List ByteArray} (h : BndOk m B) (s : ByteArray) (z : Int) (hz : z = (times s B' : Nat)) (hB : ∀ x, x ≠ s → times x B' = times x B) : BndOk (mput s (.lit (.int .i64 z)) m) B' := by
  intro x
  rw [mget_put]
  by_cases hx : x = s
  · subst hx; simp [hz]
  · rw [if_neg hx, h x, hB x hx]
theorem ar_binds (a : Ar) : a.pat.binds.length + a.body.mass ≤ a.mass := by
  obtain ⟨q, b⟩ := a
  have h1 := q.binds_len
  have h2 := q.nodes_mass
  simp only [Ar.pat, Ar.body, Ar.mass]
  omega
end Go.Proofs.Ytldhlbjengpdbaa
namespace Go.Proofs.Ytldhlbjengpdbaa
open Go.RowKit
theorem str_at1 {l : List ByteArray} {k : Nat} {s : ByteArray} (h : l[k]? = some s) : (l.flatMap strTs)[k * 1]? = some (.lit (.string s)) := by rw [Nat.mul_one]; exact str_at h
end Go.Proofs.Ytldhlbjengpdbaa
namespace Go.Proofs.Ytldhlbjengpdbaa
open Go.RowKit
def twF (seen : List ByteArray) : List ByteArray → Bool
  | [] => false
  | s :: l => hasS seen s || twF (seen ++ [s]) l
def twB (l : List ByteArray) : Bool := twF [] l
theorem hasS_iff {l : List ByteArray} {s : ByteArray} : hasS l s = true ↔ s ∈ l := by
  unfold hasS
  rw [List.any_eq_true]
  constructor
  · rintro ⟨x, hx, he⟩
    rw [← of_decide_eq_true he]; exact hx
  · exact fun h => ⟨s, h, decide_eq_true rfl⟩
theorem twF_iff : ∀ (l seen : List ByteArray), seen.Nodup → (twF seen l = true ↔ ¬ (seen ++ l).Nodup)
  | [], seen, h => by rw [List.append_nil, twF]; simp [h]
  | s :: l, seen, h => by
    rw [twF]
    cases hs : hasS seen s
    · rw [Bool.false_or]
      have hn : s ∉ seen := fun hm => by rw [hasS_iff.2 hm] at hs; cases hs
      have h2 : (seen ++ [s]).Nodup := by
        rw [List.nodup_append]
        exact ⟨h, by simp, fun a ha b hb e => hn (by rw [List.mem_singleton] at hb; rw [← hb, ← e]; exact ha)⟩
      rw [twF_iff l (seen ++ [s]) h2, List.append_assoc]
      rfl
    · rw [Bool.true_or]
      have hm := hasS_iff.1 hs
      constructor
      · intro _ hn
        exact (List.nodup_append.1 hn).2.2 s hm s (by simp) rfl
      · exact fun _ => rfl
theorem twB_iff (l : List ByteArray) : twB l = true ↔ ¬ l.Nodup := by
  have := twF_iff l [] List.nodup_nil
  simpa [twB] using this
def TwTo (l : List ByteArray) (k : Nat) : Prop := twB l = twF (l.take k) (l.drop k)
theorem twTo_zero (l : List ByteArray) : TwTo l 0 := rfl
theorem twTo_yes {l : List ByteArray} {k : Nat} {s : ByteArray} (h : TwTo l k) (hs : l[k]? = some s) (hp : hasS (l.take k) s = true) : twB l = true := by
  obtain ⟨h1, rfl⟩ := List.getElem?_eq_some_iff.1 hs
  unfold TwTo at h
  rw [h, List.drop_eq_getElem_cons h1, twF, hp]; rfl
theorem twTo_no {l : List ByteArray} {k : Nat} {s : ByteArray} (h : TwTo l k) (hs : l[k]? = some s) (hp : hasS (l.take k) s = false) : TwTo l (k + 1) := by
  obtain ⟨h1, rfl⟩ := List.getElem?_eq_some_iff.1 hs
  unfold TwTo at *
  rw [h, List.drop_eq_getElem_cons h1, twF, hp, List.take_succ_eq_append_getElem h1]; rfl
theorem twTo_end {l : List ByteArray} (h : TwTo l l.length) : twB l = false := by
  unfold TwTo at h
  rw [h, List.drop_length]; rfl
def Pr.makers (p : Pr) : List ByteArray := p.datas.flatMap fun d => d.makes.map Mk.name
def Pr.calls (p : Pr) : List ByteArray := (p.traits.flatMap fun t => t.funcs.map Fu.name) ++ p.funcs.map Fu.name
def Pr.acts (p : Pr) : List ByteArray := p.actors.map Ac.name
structure Env where
  mkr : List ByteArray
  ca : List ByteArray
  ac : List ByteArray
def Pr.env (p : Pr) : Env := ⟨p.makers, p.calls, p.acts⟩
def frg1 (mk : List ByteArray) : V → Bool
  | .mk k _ t _ => decide (k = 6) && !hasS mk t
mutual
def V.frg (mk : List ByteArray) : V → Bool
  | .mk k n t l => frg1 mk (.mk k n t l) || V.frgs mk l
def V.frgs (mk : List ByteArray) : List V → Bool
  | [] => false
  | v :: r => v.frg mk || V.frgs mk r
end
theorem V.frgs_any (mk : List ByteArray) : ∀ l : List V, V.frgs mk l = l.any (V.frg mk)
  | [] => rfl
  | v :: l => by rw [V.frgs, V.frgs_any mk l, List.any_cons]
theorem V.frg_eq (mk : List ByteArray) (v : V) : v.frg mk = (frg1 mk v || V.frgs mk v.kids) := by cases v; rw [V.frg]; rfl
theorem V.frgs_app (mk : List ByteArray) (l r : List V) : V.frgs mk (l ++ r) = (V.frgs mk l || V.frgs mk r) := by rw [V.frgs_any, V.frgs_any, V.frgs_any, List.any_append]
def badPat (E : Env) (r : Ar) : Bool := twB r.pat.binds || r.pat.frg E.mkr
def ownBad (E : Env) (B : List ByteArray) (k : Int) (t : ByteArray) (ns : List ByteArray) : Bool :=
  if k = 5 then !hasS B t else if k = 9 then !hasS E.ca t else if k = 12 then !hasS E.mkr t else if k = 14 then !hasS E.ac t else if k = 10 then twB ns else false
def wrongE (E : Env) (B : List ByteArray) (k : Int) (t : ByteArray) (ns : List ByteArray) (rs : List Ar) : Bool := ownBad E B k t ns || rs.any (badPat E)
mutual
def Ex.sc (E : Env) : Ex → List ByteArray → Option Int
  | .mk k _ t ns _ l rs a, B => bif wrongE E B k t ns rs then some a else match Ex.scs E k t ns l 0 B with | some x => some x | none => Ar.scs E rs B
def Ex.scs (E : Env) (k : Int) (t : ByteArray) (ns : List ByteArray) : List Ex → Nat → List ByteArray → Option Int
  | [], _, _ => none
  | e :: l, i, B => match e.sc E (B ++ inner k t ns i) with | some x => some x | none => Ex.scs E k t ns l (i + 1) B
def Ar.scs (E : Env) : List Ar → List ByteArray → Option Int
  | [], _ => none
  | .mk p b :: r, B => match b.sc E (B ++ p.binds) with | some x => some x | none => Ar.scs E r B
end
theorem scs_at (E : Env) {k : Int} {t : ByteArray} {ns : List ByteArray} (B : List ByteArray) : ∀ {l : List Ex} {j i : Nat} {e : Ex}, l[j]? = some e → Ex.scs E k t ns (l.drop j) (i + j) B = match e.sc E (B ++ inner k t ns (i + j)) with | some x => some x | none => Ex.scs E k t ns (l.drop (j + 1)) (i + (j + 1)) B := by
  intro l j i e h
  obtain ⟨h1, rfl⟩ := List.getElem?_eq_some_iff.1 h
  rw [List.drop_eq_getElem_cons h1, Ex.scs]
  rfl
theorem arscs_at (E : Env) (B : List ByteArray) {l : List Ar} {j : Nat} {r : Ar} (h : l[j]? = some r) : Ar.scs E (l.drop j) B = match r.body.sc E (B ++ r.pat.binds) with | some x => some x | none => Ar.scs E (l.drop (j + 1)) B := by
  obtain ⟨h1, rfl⟩ := List.getElem?_eq_some_iff.1 h
  rw [List.drop_eq_getElem_cons h1]
  cases l[j] with
  | mk p b => rw [Ar.scs]; rfl
def funR (E : Env) (f : Fu) : Option Int := bif twB f.params || twB f.names then some 0 else f.body.sc E f.names
def actR (E : Env) (a : Ac) : Option Int := bif twB a.names then some 0 else a.body.sc E a.names
def dblP (p : Pr) : Bool := p.datas.any (fun d => twB d.params) || twB (p.name :: p.uses.map Us.name) || twB (p.datas.map Da.name) || twB (p.traits.map Tr.name) || twB p.makers || twB p.calls || twB p.acts
def trP (p : Pr) : Bool := p.traits.any fun t => t.funcs.any fun f => twB f.params || twB f.names
def firstS {α : Type} (f : α → Option Int) : List α → Option Int
  | [] => none
  | a :: l => match f a with | some x => some x | none => firstS f l
theorem firstS_at {α : Type} {f : α → Option Int} {l : List α} {j : Nat} {a : α} (h : l[j]? = some a) : firstS f (l.drop j) = match f a with | some x => some x | none => firstS f (l.drop (j + 1)) := by
  obtain ⟨h1, rfl⟩ := List.getElem?_eq_some_iff.1 h
  rw [List.drop_eq_getElem_cons h1, firstS]
def progS (p : Pr) : Option Int := bif dblP p || trP p then some 0 else match firstS (funR p.env) p.funs with | some x => some x | none => firstS (actR p.env) p.actors
def errT (o : Option Int) : Int × Int := match o with | some x => (11, x) | none => (0, 0)
end Go.Proofs.Ytldhlbjengpdbaa
namespace Go.Proofs.Ytldhlbjengpdbaa
open Go.RowKit
section
variable {P : Program} {F : Frm} {Q : Exit → AS → Prop} {τ : Nat → AV} {hp : List Blk} {N : Nat}
/-- what a slot holds, said otherwise -/
theorem wk_as (s : Nat) (v : AV) (h : ∀ M u, RA M (τ s) u → RA M v u) : Wk F ⟨τ, hp, N⟩ ⟨upd N s v τ, hp, N⟩ := by
  intro M a w hr
  refine ⟨M, fun i => ?_, hr.size, hr.defers, hr.heap⟩
  have := hr.tmps i
  simp only [upd] at this ⊢
  cases hc : Nat.beq i s with
  | false => simp only [Bool.false_and, cond_false]; exact this
  | true =>
    obtain rfl := Nat.eq_of_beq_eq_true hc
    cases hN : Nat.blt i N with
    | false => simp only [Bool.and_false, cond_false]; exact this
    | true => simp only [Bool.and_true, cond_true]; exact h M _ this
theorem x_as {c : Go.Code} (s : Nat) (v : AV) (h : ∀ M u, RA M (τ s) u → RA M v u) (hq : AC P F c Q ⟨upd N s v τ, hp, N⟩) : AC P F c Q ⟨τ, hp, N⟩ := ac_wk (wk_as s v h) hq
end
theorem take_flat {α β : Type} {f : α → List β} {sz : Nat} (hf : ∀ a, (f a).length = sz) : ∀ (m : Nat) (l : List α), (l.flatMap f).take (m * sz) = (l.take m).flatMap f
  | 0, l => by simp
  | m + 1, [] => by simp
  | m + 1, a :: l => by
    rw [List.flatMap_cons, List.take_succ_cons, List.flatMap_cons, ← take_flat hf m l, show (m + 1) * sz = (f a).length + m * sz by rw [hf a, Nat.succ_mul]; omega, List.take_length_add_append]
section
variable {P : Program} {L : Tab} {F : Frm} {d : Option Tmp} {ty : TypeId} {pos : String} {aft : Array Edge} {g : Option (Nat × Bool)} {ρ : Operand → AV} {hp : List Blk} {K : AV → List Blk → Prop}
theorem zPhf {α : Type} {f : α → List T} {l : List α} {t el : TypeId} {ti te : TI} {x y : Operand} {sz : Nat} {k : IntKind} {z : Int} (m : Nat) (hm : m ≤ l.length) (hf : ∀ a, (f a).length = sz) (hK : K (.c (.row (l.take m).length sz ((l.take m).flatMap f))) hp) (hz : z = (m : Int) := by exact rfl) (hL : TabOk P L := by exact tok) (hx : ρ x = .c (.row l.length sz (l.flatMap f)) := by exact rfl) (hy : ρ y = .c (.lit (.int k z)) := by exact rfl) (ht : L.look t = some ti := by exact rfl) (hd : ti.d = .slice el := by exact rfl) (hte : L.look el = some te := by exact rfl) (hsz : te.size = sz := by exact rfl) :
    LO P F ⟨d, .slice t x none (some y) none, ty, pos, aft, g⟩ ρ hp K := by
  refine lo_part_hi hL m hm hx hy hz ht hd hte hsz ?_
  rw [take_flat hf m l]
  have h : (l.take m).length = m := by rw [List.length_take]; omega
  rw [h] at hK
  exact hK
end
end Go.Proofs.Ytldhlbjengpdbaa
namespace Go.Proofs.Ytldhlbjengpdbaa
open Go.RowKit
section
variable {P : Program} {F : Frm} {d : Option Tmp} {ty : TypeId} {pos : String} {aft : Array Edge} {g : Option (Nat × Bool)} {ρ : Operand → AV} {hp : List Blk} {K : AV → List Blk → Prop}
/-- the sum of two counts -/
theorem zAn {t t' : TypeId} {x y : Operand} {a b : Nat} (h : K (.c (.lit (.int .i64 ((a + b : Nat) : Int)))) hp) (hx : ρ x = .c (.lit (.int .i64 (a : Nat))) := by exact rfl) (hy : ρ y = .c (.lit (.int .i64 (b : Nat))) := by exact rfl) (hb : a + b ≤ 9223372036854775807 := by first | omega | (dsimp only at *; omega)) : LO P F ⟨d, .binOp .add t x y t', ty, pos, aft, g⟩ ρ hp K :=
  lo_add hx hy (by rw [IntWalk.i64_in _ (by omega)]; omega) h
end
/-- the driver, for sums of counts -/
theorem gA {G G' : Prop} (h : G') (e : Hold G' → G := by
    intro h
    first | refine zNil ?_ | refine zOp ?_ | refine zOpn ?_ | refine zNo ?_ | refine zNon ?_ | refine zUn ?_ | refine zUnn ?_ | refine zYes ?_ | refine zYesn ?_ | (refine zkL ?_; first | refine zL1 ?_ | refine zL2 ?_ | refine zL3 ?_ | refine zLp ?_) | refine zM ?_ | (refine zkF ?_; first | refine zF1 ?_ | refine zF2 ?_ | refine zF3 ?_) | refine zA ?_ | (refine zkB ?_; first | refine zC5 ?_ | refine zC6 ?_ | refine zC1 ?_ | refine zC2 ?_ | refine zC3 ?_ | refine zC4 ?_ | refine zS5 ?_ | refine zS6 ?_ | refine zS1 ?_ | refine zS2 ?_ | refine zS3 ?_ | refine zS4 ?_ | refine zAn ?_ | refine zQ1 ?_ | refine zQ2 ?_ | refine zQ3 ?_ | refine zQ4 ?_ | refine zQ5 ?_ | refine zQ6 ?_) | (refine zkI ?_; first | refine zN3 ?_ | refine zN4 ?_) | refine zS ?_ | refine zPt ?_ | refine zPf ?_ | refine zE ?_ | refine zEA ?_ | refine zNot ?_ | refine zBd ?_ | refine zFn ?_ | refine zK1 ?_ | refine zK2 ?_ | refine zBs ?_ | refine ac_seq ?_ | refine ac_block ?_ | refine ac_region ?_ | refine ac_skip ?_ | refine ac_exit ?_ | refine ac_ret ?_ | refine zT ?_ | refine zF ?_
    repeat (first | refine zNil ?_ | refine zOp ?_ | refine zOpn ?_ | refine zNo ?_ | refine zNon ?_ | refine zUn ?_ | refine zUnn ?_ | refine zYes ?_ | refine zYesn ?_ | (refine zkL ?_; first | refine zL1 ?_ | refine zL2 ?_ | refine zL3 ?_ | refine zLp ?_) | refine zM ?_ | (refine zkF ?_; first | refine zF1 ?_ | refine zF2 ?_ | refine zF3 ?_) | refine zA ?_ | (refine zkB ?_; first | refine zC5 ?_ | refine zC6 ?_ | refine zC1 ?_ | refine zC2 ?_ | refine zC3 ?_ | refine zC4 ?_ | refine zS5 ?_ | refine zS6 ?_ | refine zS1 ?_ | refine zS2 ?_ | refine zS3 ?_ | refine zS4 ?_ | refine zAn ?_ | refine zQ1 ?_ | refine zQ2 ?_ | refine zQ3 ?_ | refine zQ4 ?_ | refine zQ5 ?_ | refine zQ6 ?_) | (refine zkI ?_; first | refine zN3 ?_ | refine zN4 ?_) | refine zS ?_ | refine zPt ?_ | refine zPf ?_ | refine zE ?_ | refine zEA ?_ | refine zNot ?_ | refine zBd ?_ | refine zFn ?_ | refine zK1 ?_ | refine zK2 ?_ | refine zBs ?_ | refine ac_seq ?_ | refine ac_block ?_ | refine ac_region ?_ | refine ac_skip ?_ | refine ac_exit ?_ | refine ac_ret ?_ | refine zT ?_ | refine zF ?_)
    exact h.out) : G := e ⟨h⟩
end Go.Proofs.Ytldhlbjengpdbaa
namespace Go.Proofs.Ytldhlbjengpdbaa
open Go.RowKit
theorem lits_rt (M : Mm) : ∀ l : List Value, RTs M (l.map T.lit) l
  | [] => by simp only [List.map_nil, RTs]
  | v :: l => by simp only [List.map_cons, RTs]; exact ⟨v, l, rfl, by simp only [RT], lits_rt M l⟩
section
variable {P : Program} {F : Frm} {L : Tab} {d : Option Tmp} {ty : TypeId} {pos : String} {aft : Array Edge} {g : Option (Nat × Bool)} {ρ : Operand → AV} {hp : List Blk} {K : AV → List Blk → Prop}
theorem lo_cap_nil (hL : TabOk P L) {t el : TypeId} {ti : TI} {x : Operand} (hx : ρ x = .c (.lit (.slice none 0 0))) (ht : L.look t = some ti) (hd : ti.d = .slice el) (h : K (.c (.lit (.int .i64 0))) hp) : LO P F ⟨d, .call { callee := .builtin .cap, args := #[x], argTypes := #[t] }, ty, pos, aft, g⟩ ρ hp K := by
  refine LO.same (fun M e w he hh => ?_) h
  have h1 := he x (by first | (simp [Op.operands]; done) | simp [Op.operands, Call.operands])
  rw [hx] at h1
  simp only [RA, RT] at h1
  exact ⟨_, by simp [execOp, resolve, invoke, builtin, Builtin.cap_, h1, run_underlying (hL.slice ht hd), goInt]; rfl, by simp only [RA, RT]⟩
theorem lo_hi_nil (hL : TabOk P L) {t el : TypeId} {ti te : TI} {x y : Operand} {k : IntKind} (hx : ρ x = .c (.lit (.slice none 0 0))) (hy : ρ y = .c (.lit (.int k 0))) (ht : L.look t = some ti) (hd : ti.d = .slice el) (hte : L.look el = some te) (hK : K (.c (.lit (.slice none 0 0))) hp) : LO P F ⟨d, .slice t x none (some y) none, ty, pos, aft, g⟩ ρ hp K := by
  refine LO.same (fun M e w he _ => ?_) hK
  have h1 := he x (by simp [Op.operands])
  rw [hx] at h1
  simp only [RA, RT] at h1
  have h2 := he y (by simp [Op.operands])
  rw [hy] at h2
  simp only [RA, RT] at h2
  refine ⟨.slice none 0 0, ?_, by simp only [RA, RT]⟩
  have hb := run_sliceBound (P := P) (w := w) k (0 : Int) 0 .sliceAcap (by omega) (by omega)
  simp [execOp, Instr.sliceAt, Instr.slice, Instr.sliceBounds, h1, h2, run_underlying (hL.slice ht hd), hL.sizeOf hte, hb]
theorem exec_append2 {e : Operand → Value} {x y : Operand} {t u : TypeId} (w : World) {v' : Value} {w' : World} (h : (Builtin.append_ #[t, u] ty #[e x, e y]).run P w = .ok v' w') :
    (execOp e ⟨d, .call { callee := .builtin .append, args := #[x, y], argTypes := #[t, u] }, ty, pos, aft, g⟩).run P w = .ok (.value v') w' := by
  simp [execOp, resolve, invoke, builtin, h]
theorem lo_app0 (hL : TabOk P L) {t tn el : TypeId} {ti tin te : TI} {x y : Operand} (n : Nat) {kn : IntKind} (hn0 : 0 < n) (hx : ρ x = .c (.lit (.slice none 0 0))) (hy : ρ y = .c (.lit (.int .i64 (n : Nat)))) (ht : L.look t = some ti) (hd : ti.d = .slice el) (htn : L.look tn = some tin) (hdn : tin.d = .int kn) (hte : L.look el = some te) (h0 : 0 < te.size) (hbytes : n * te.bytes ≤ 140737488355328) (hn : n ≤ 140737488355328)
    (h : ∀ v' ts, K (.own hp.length v') (hp ++ [.row v' el te.size n ts])) : LO P F ⟨d, .call { callee := .builtin .append, args := #[x, y], argTypes := #[t, tn] }, ty, pos, aft, g⟩ ρ hp K := by
  refine ⟨fun M e w he hh => ?_⟩
  have h1 := he x (by first | (simp [Op.operands]; done) | simp [Op.operands, Call.operands])
  rw [hx] at h1
  simp only [RA, RT] at h1
  have h2 := he y (by first | (simp [Op.operands]; done) | simp [Op.operands, Call.operands])
  rw [hy] at h2
  simp only [RA, RT] at h2
  obtain ⟨inf, z, hi1, hi2, hi3, hi4, hi5, hi6, _⟩ := hL.info hte
  have g1 := Lib.run_append_grow_zeros (P := P) w t tn ty el inf z .i64 kn (hL.slice ht hd) (hL.int htn hdn) hi1 hi4 none 0 0 [] (by simp [Builtin.firstCells]) n hn0 (by omega) (by omega) (by omega) (by rw [hi3]; omega) (by rw [hi3]; exact growslice_fits (by omega) (by simpa using hbytes))
  simp only [Nat.zero_add] at g1
  rw [← h1, ← h2] at g1
  rw [exec_append2 w g1]
  have hge := grownCap_ge w n 0 el
  have hcm : grownCap w n 0 el ≤ maxLen := grownCap_le_maxLen w n 0 el (by unfold maxLen; omega)
  have hzl : (Builtin.zeroCells z.cells n).toList.length = n * te.size := by rw [Array.length_toList, size_zeroCells, hi6.1]
  have hone : OneAll (Builtin.zeroCells z.cells n).toList := by
    intro u hu
    simp only [Builtin.zeroCells, Array.toList_map, List.mem_map, Array.mem_toList_iff, Array.mem_range] at hu
    obtain ⟨j, hj, rfl⟩ := hu
    have hm : j % z.cells.size < z.cells.size := Nat.mod_lt _ (by rw [hi6.1]; omega)
    rw [getElem!_pos z.cells _ hm]
    refine hi6.2 _ ?_
    rw [← hi5]
    exact Array.getElem_mem_toList hm
  have hown : OwnsO (w.drew.alloc (.cells (#[] ++ Builtin.zeroCells z.cells n ++ Builtin.zeroCells z.cells (grownCap w n 0 el - n)) el)) el te.size (.slice (some ⟨w.heap.size, 0, none⟩) n (grownCap w n 0 el)) n (Builtin.zeroCells z.cells n).toList := by
    refine ⟨hzl, .inr ⟨w.heap.size, 0, _, _, rfl, heap_alloc_new w.drew _, hge, hcm, ?_, ?_⟩⟩
    · simp only [Array.size_append, size_zeroCells, hi6.1, Nat.zero_add, List.size_toArray, List.length_nil]
      rw [← Nat.add_mul]
      exact Nat.mul_le_mul_right _ (by omega)
    · simp only [Array.toList_append, List.drop_zero, List.nil_append]
      rw [← hzl]
      exact List.take_left
  generalize hxs : (Builtin.zeroCells z.cells n).toList = xs at *
  refine ⟨M, _, _, h (.slice (some ⟨w.heap.size, 0, none⟩) n (grownCap w n 0 el)) (xs.map T.lit), Ext.refl _ _, ?_, by simp only [RA]; exact ⟨trivial, rfl⟩⟩
  refine push_row (w' := w.drew.alloc (.cells (#[] ++ Builtin.zeroCells z.cells n ++ Builtin.zeroCells z.cells (grownCap w n 0 el - n)) el)) (x := .row (.slice (some ⟨w.heap.size, 0, none⟩) n (grownCap w n 0 el)) el te.size n (xs.map T.lit)) hh rfl rfl rfl (by simp) (fun b hb => heap_alloc_old w.drew _ hb) (Ext.refl _ _) (fun p v h1 h2 => by rw [h2] at h1; cases h1) ⟨xs, hown, lits_rt M xs, hone, h0⟩ (fun b hb => ?_)
  obtain rfl : w.heap.size = b := by simpa [Blk.blk, Value.ownBlock] using hb
  exact ⟨Nat.le_refl _, fun p hp => mem_fresh hh.mem (by omega)⟩
theorem zCap0 {t el : TypeId} {ti : TI} {x : Operand} (h : K (.c (.lit (.int .i64 0))) hp) (hL : TabOk P L := by exact tok) (hx : ρ x = .c (.lit (.slice none 0 0)) := by exact rfl) (ht : L.look t = some ti := by exact rfl) (hd : ti.d = .slice el := by exact rfl) : LO P F ⟨d, .call { callee := .builtin .cap, args := #[x], argTypes := #[t] }, ty, pos, aft, g⟩ ρ hp K := lo_cap_nil hL hx ht hd h
theorem zHn {t el : TypeId} {ti te : TI} {x y : Operand} {k : IntKind} (h : K (.c (.lit (.slice none 0 0))) hp) (hL : TabOk P L := by exact tok) (hx : ρ x = .c (.lit (.slice none 0 0)) := by exact rfl) (hy : ρ y = .c (.lit (.int k 0)) := by exact rfl) (ht : L.look t = some ti := by exact rfl) (hd : ti.d = .slice el := by exact rfl) (hte : L.look el = some te := by exact rfl) : LO P F ⟨d, .slice t x none (some y) none, ty, pos, aft, g⟩ ρ hp K := lo_hi_nil hL hx hy ht hd hte h
theorem zAp0 {t tn el : TypeId} {ti tin te : TI} {x y : Operand} {kn : IntKind} {k : Nat} {hp' : Value → List T → List Blk} (n : Nat) (hn0 : 0 < n) (hn : n ≤ 1048576) (h : ∀ v' ts, K (.own k v') (hp' v' ts)) (hL : TabOk P L := by exact tok) (hx : ρ x = .c (.lit (.slice none 0 0)) := by exact rfl) (hy : ρ y = .c (.lit (.int .i64 (n : Nat))) := by exact rfl) (ht : L.look t = some ti := by exact rfl) (hd : ti.d = .slice el := by exact rfl) (htn : L.look tn = some tin := by exact rfl) (hdn : tin.d = .int kn := by exact rfl) (hte : L.look el = some te := by exact rfl) (h0 : Nat.ble 1 te.size = true := by exact rfl) (hb : te.bytes ≤ 1048576 := by decide) (hk : lenU hp = some k := by exact rfl)
    (hf : ∀ v' ts, evl (hp ++ [.row v' el te.size n ts]) = some (hp' v' ts) := by exact fun _ _ => rfl) : LO P F ⟨d, .call { callee := .builtin .append, args := #[x, y], argTypes := #[t, tn] }, ty, pos, aft, g⟩ ρ hp K :=
  lo_app0 hL n hn0 hx hy ht hd htn hdn hte (Nat.le_of_ble_eq_true h0) (Nat.le_trans (Nat.mul_le_mul hn hb) (by decide)) (by omega) fun v' ts => by
    rw [← lenU_eq hk, ← evl_eq (hf v' ts)]; exact h v' ts
end
end Go.Proofs.Ytldhlbjengpdbaa
namespace Go.Proofs.Ytldhlbjengpdbaa
open Go.RowKit
theorem TabOk.array {P : Program} {L : Tab} (hL : TabOk P L) {t e : TypeId} {n : Nat} {i : TI} (h : L.look t = some i) (hd : i.d = .array n e) : P.underlying t = some (.array n e) := by
  obtain ⟨d, h1, h2⟩ := hL.desc h
  rw [hd] at h2
  cases d <;> simp [descB] at h2
  rw [h1, h2.1, h2.2]
end Go.Proofs.Ytldhlbjengpdbaa
namespace Go.Proofs.Ytldhlbjengpdbaa
open Go.RowKit
inductive Pt where
  | fin (r : List Nat)
  | fork (p : List Nat) (i : Nat) (a : Pt) (j : Nat) (b : Pt)
  | fork3 (p : List Nat) (i : Nat) (a : Pt) (j : Nat) (b : Pt) (k : Nat) (c : Pt)
  | fork4 (p : List Nat) (i : Nat) (a : Pt) (j : Nat) (b : Pt) (k : Nat) (c : Pt) (m : Nat) (d : Pt)
def Pt.n : Pt → Nat
  | .fin r => r.length
  | .fork p _ a _ _ => a.n + 1 + p.length
  | .fork3 p _ a _ _ _ _ => a.n + 1 + p.length
  | .fork4 p _ a _ _ _ _ _ _ => a.n + 1 + p.length
section
variable (P : Program) (F : Frm) (md : Region.Mode) (ops : Array Oper) (N : Nat) (cls : Nat → Nat)
def ptB : Pt → Array Bool → Bool
  | .fin r, listed => ordB md ops cls r listed
  | .fork p i a j b, listed => ordP md ops cls p listed && decide (Region.ready md ops (lst p listed) = [i, j]) && ptB a ((lst p listed).setIfInBounds i true) && ptB b ((lst p listed).setIfInBounds j true) && Nat.beq a.n b.n
  | .fork3 p i a j b k c, listed => ordP md ops cls p listed && decide (Region.ready md ops (lst p listed) = [i, j, k]) && ptB a ((lst p listed).setIfInBounds i true) && ptB b ((lst p listed).setIfInBounds j true) && ptB c ((lst p listed).setIfInBounds k true) && (Nat.beq a.n b.n && Nat.beq a.n c.n)
  | .fork4 p i a j b k c m e, listed => ordP md ops cls p listed && decide (Region.ready md ops (lst p listed) = [i, j, k, m]) && ptB a ((lst p listed).setIfInBounds i true) && ptB b ((lst p listed).setIfInBounds j true) && ptB c ((lst p listed).setIfInBounds k true) && ptB e ((lst p listed).setIfInBounds m true) && (Nat.beq a.n b.n && (Nat.beq a.n c.n && Nat.beq a.n e.n))
def WTt (Kf : (Nat → AV) → List Blk → Prop) : Pt → (Nat → AV) → List Blk → Prop
  | .fin r, τ, hp => WO P F ops N cls Kf r τ hp
  | .fork p i a j b, τ, hp => WO P F ops N cls (fun τ hp => WO P F ops N cls (WTt Kf a) [i] τ hp ∧ WO P F ops N cls (WTt Kf b) [j] τ hp) p τ hp
  | .fork3 p i a j b k c, τ, hp => WO P F ops N cls (fun τ hp => WO P F ops N cls (WTt Kf a) [i] τ hp ∧ WO P F ops N cls (WTt Kf b) [j] τ hp ∧ WO P F ops N cls (WTt Kf c) [k] τ hp) p τ hp
  | .fork4 p i a j b k c m e, τ, hp => WO P F ops N cls (fun τ hp => WO P F ops N cls (WTt Kf a) [i] τ hp ∧ WO P F ops N cls (WTt Kf b) [j] τ hp ∧ WO P F ops N cls (WTt Kf c) [k] τ hp ∧ WO P F ops N cls (WTt Kf e) [m] τ hp) p τ hp
end
section
variable {P : Program} {F : Frm} {md : Region.Mode} {ops : Array Oper} {N : Nat} {cls : Nat → Nat} {Kf : (Nat → AV) → List Blk → Prop} {τ : Nat → AV} {hp : List Blk}
theorem wtt_fin {r : List Nat} (h : WO P F ops N cls Kf r τ hp) : WTt P F ops N cls Kf (.fin r) τ hp := h
theorem anyA_pt : ∀ (t : Pt) (listed : Array Bool) (τ : Nat → AV) (hp : List Blk), ClosedL md ops listed → ptB md ops cls t listed = true → WTt P F ops N cls Kf t τ hp → AnyA P F md ops N cls Kf t.n listed τ hp
  | .fin r, listed, τ, hp, hc, hB, h => anyA_ord r listed τ hp hc hB h
  | .fork p i a j b, listed, τ, hp, hc, hB, h => by
    simp only [ptB, Bool.and_eq_true] at hB
    obtain ⟨⟨⟨⟨b1, b2⟩, b3⟩, b4⟩, b5⟩ := hB
    have hcl := ordP_closed p _ hc b1
    have hr := of_decide_eq_true b2
    refine anyA_pre (a.n + 1) p listed τ hp hc b1 (WO.mono p (fun τ' hp' h' => ?_) h)
    refine ⟨fun h0 => (by rw [hr] at h0; cases h0), fun k hk => ?_⟩
    have hk' := hk
    rw [hr] at hk'
    simp only [List.mem_cons, List.not_mem_nil, or_false] at hk'
    rcases hk' with rfl | rfl
    · exact opA_mono (fun τ' hp' h' => anyA_pt a _ τ' hp' (hcl.set hk) b3 h') h'.1
    · rw [Nat.eq_of_beq_eq_true b5]; exact opA_mono (fun τ' hp' h' => anyA_pt b _ τ' hp' (hcl.set hk) b4 h') h'.2
  | .fork3 p i a j b q c, listed, τ, hp, hc, hB, h => by
    simp only [ptB, Bool.and_eq_true] at hB
    obtain ⟨⟨⟨⟨⟨b1, b2⟩, b3⟩, b4⟩, b6⟩, b5, b7⟩ := hB
    have hcl := ordP_closed p _ hc b1
    have hr := of_decide_eq_true b2
    refine anyA_pre (a.n + 1) p listed τ hp hc b1 (WO.mono p (fun τ' hp' h' => ?_) h)
    refine ⟨fun h0 => (by rw [hr] at h0; cases h0), fun k hk => ?_⟩
    have hk' := hk
    rw [hr] at hk'
    simp only [List.mem_cons, List.not_mem_nil, or_false] at hk'
    rcases hk' with rfl | rfl | rfl
    · exact opA_mono (fun τ' hp' h' => anyA_pt a _ τ' hp' (hcl.set hk) b3 h') h'.1
    · rw [Nat.eq_of_beq_eq_true b5]; exact opA_mono (fun τ' hp' h' => anyA_pt b _ τ' hp' (hcl.set hk) b4 h') h'.2.1
    · rw [Nat.eq_of_beq_eq_true b7]; exact opA_mono (fun τ' hp' h' => anyA_pt c _ τ' hp' (hcl.set hk) b6 h') h'.2.2
  | .fork4 p i a j b q c m e, listed, τ, hp, hc, hB, h => by
    simp only [ptB, Bool.and_eq_true] at hB
    obtain ⟨⟨⟨⟨⟨⟨b1, b2⟩, b3⟩, b4⟩, b6⟩, b8⟩, b5, b7, b9⟩ := hB
    have hcl := ordP_closed p _ hc b1
    have hr := of_decide_eq_true b2
    refine anyA_pre (a.n + 1) p listed τ hp hc b1 (WO.mono p (fun τ' hp' h' => ?_) h)
    refine ⟨fun h0 => (by rw [hr] at h0; cases h0), fun k hk => ?_⟩
    have hk' := hk
    rw [hr] at hk'
    simp only [List.mem_cons, List.not_mem_nil, or_false] at hk'
    rcases hk' with rfl | rfl | rfl | rfl
    · exact opA_mono (fun τ' hp' h' => anyA_pt a _ τ' hp' (hcl.set hk) b3 h') h'.1
    · rw [Nat.eq_of_beq_eq_true b5]; exact opA_mono (fun τ' hp' h' => anyA_pt b _ τ' hp' (hcl.set hk) b4 h') h'.2.1
    · rw [Nat.eq_of_beq_eq_true b7]; exact opA_mono (fun τ' hp' h' => anyA_pt c _ τ' hp' (hcl.set hk) b6 h') h'.2.2.1
    · rw [Nat.eq_of_beq_eq_true b9]; exact opA_mono (fun τ' hp' h' => anyA_pt e _ τ' hp' (hcl.set hk) b8 h') h'.2.2.2
end
section
variable {P : Program} {F : Frm} {τ : Nat → AV} {hp : List Blk} {N : Nat} {Q : Exit → AS → Prop} {id : Nat} {l : List Oper}
theorem ac_drawT3 (c : List Nat) (t : Pt) (hm : P.follows .mixedOrders = true) (hB : (ptB .any l.toArray (clsOf c) t (Array.replicate l.toArray.size false) && Nat.beq t.n l.length) = true)
    (h : WTt P F l.toArray N (clsOf c) (fun τ' hp' => Q .normal ⟨τ', hp', N⟩) t τ hp) : AC P F (.region id l.toArray true) Q ⟨τ, hp, N⟩ := by
  refine ⟨fun M a w hr => ?_⟩
  simp only [Bool.and_eq_true] at hB
  have hlen := Nat.eq_of_beq_eq_true hB.2
  have hrd : Rep F M ⟨τ, hp, N⟩ a { w with drawn := w.drawn + 1 } := ⟨hr.tmps, hr.size, hr.defers, hr.heap.drew⟩
  have hcl : ClosedL .any l.toArray (Array.replicate l.toArray.size false) := fun j oj _ hl => by rw [getD_replicate_false] at hl; cases hl
  refine wp_region_any hm ?_
  have H := wpAny_of_A (Q := fun e a' w' => ∃ M' σ', Q e σ' ∧ Rep F M' σ' a' w') (fun M τ hp a w hk hr => ⟨M, _, hk, hr⟩) _ _ _ _ _ _ _ hrd (anyA_pt t _ τ hp hcl hB.1 h)
  rwa [hlen, show l.length = l.toArray.size by simp] at H
end
end Go.Proofs.Ytldhlbjengpdbaa
namespace Go.Proofs.Ytldhlbjengpdbaa
open Go.RowKit
/-- the type of a structure's field -/
def fty (P : Program) (s : TypeId) (k : Nat) : Option TypeId := match P.underlying s with
  | some (.struct fs) => (fs[k]?).map (·.type)
  | _ => none
section
variable {P : Program} {F : Frm} {L : Tab} {d : Option Tmp} {ty : TypeId} {pos : String} {aft : Array Edge} {g : Option (Nat × Bool)} {ρ : Operand → AV} {hp : List Blk} {K : AV → List Blk → Prop}
theorem lo_eqbr {t t' : TypeId} {x y : Operand} {a b r : Bool} (hr : decide (a = b) = r) (h : K (.c (.lit (.bool r))) hp) (hx : ρ x = .c (.lit (.bool a)) := by exact rfl) (hy : ρ y = .c (.lit (.bool b)) := by exact rfl) (hu : isBool P t = true := by kernel_rfl) : LO P F ⟨d, .binOp .eql t x y t', ty, pos, aft, g⟩ ρ hp K :=
  zB5 (hr ▸ h) hx hy hu
end
end Go.Proofs.Ytldhlbjengpdbaa
namespace Go.Proofs.Ytldhlbjengpdbaa
open Go.RowKit
theorem heap_pick {F : Frm} {M : Mm} {hp hs : List Blk} {w : World} {sel : List Nat} (h : HeapOk F M hp w) (hs' : selB hp sel = some hs) (hf : freshB sel = true) : HeapOk F M hs w := by
  refine ⟨h.mem, h.ext, h.frm, fun i x hx => ?_, fun i j x y b hx hy hxb hyb => ?_, fun i x b hx hxb => ?_⟩
  · obtain ⟨j, _, h2⟩ := selB_get hs' hx
    exact h.at_ j x h2
  · obtain ⟨k, h1, h2⟩ := selB_get hs' hx
    obtain ⟨k', h3, h4⟩ := selB_get hs' hy
    have := h.sep k k' x y b h2 h4 hxb hyb
    subst this
    exact freshB_inj hf h1 h3
  · obtain ⟨j, _, h2⟩ := selB_get hs' hx
    exact h.out j x b h2 hxb
section
variable {P : Program} {F : Frm} {τ : Nat → AV} {hp hs : List Blk} {N : Nat} {Q : Exit → AS → Prop}
theorem wk_pick (sel : List Nat) (hs' : selB hp sel = some hs) (hf : freshB sel = true) : Wk F ⟨τ, hp, N⟩ ⟨τ, hs, N⟩ := by
  intro M a w hr
  exact ⟨M, hr.tmps, hr.size, hr.defers, heap_pick hr.heap hs' hf⟩
end
end Go.Proofs.Ytldhlbjengpdbaa
namespace Go.Proofs.Ytldhlbjengpdbaa
open Go.RowKit
theorem putB_same : ∀ {hp : List Blk} {sel : List Nat} {hs : List Blk}, selB hp sel = some hs → putB hp sel hs = hp
  | hp, [], hs, h => by simp only [selB, Option.some.injEq] at h; subst h; simp [putB]
  | hp, k :: is, hs, h => by
    simp only [selB] at h
    split at h
    · next x r hx hr =>
      simp only [Option.some.injEq] at h
      subst h
      rw [putB, putB_same hr]
      obtain ⟨h1, rfl⟩ := List.getElem?_eq_some_iff.1 hx
      exact List.set_getElem_self h1
    · cases h
theorem selB_len : ∀ {hp : List Blk} {sel : List Nat} {hs : List Blk}, selB hp sel = some hs → sel.length = hs.length
  | hp, [], hs, h => by simp only [selB, Option.some.injEq] at h; subst h; rfl
  | hp, k :: is, hs, h => by
    simp only [selB] at h
    split at h
    · next x r hx hr =>
      simp only [Option.some.injEq] at h
      subst h
      rw [List.length_cons, List.length_cons, selB_len hr]
    · cases h
theorem re_agg {asq bs : List AV} (h : Res asq bs) : Re (.agg asq) (.agg bs) := fun M u hu => by
  simp only [RA] at hu ⊢
  obtain ⟨xs, e, h1⟩ := hu
  exact ⟨xs, e, h M _ h1⟩
section
variable {P : Program} {F : Frm} {d : Option Tmp} {ty : TypeId} {pos : String} {aft : Array Edge} {g : Option (Nat × Bool)} {ρ : Operand → AV} {hp : List Blk} {K : AV → List Blk → Prop}
theorem zCallR {f : FuncId} {y : Operand} {xs : List Operand} {ats : Array TypeId} {asq cap : List AV} {hs : List Blk} {R : AV → List Blk → Prop} {t : AV} (sel : List Nat) (hc : AG P f asq hs R) (hR : ∀ r hs2, R r hs2 → r = t ∧ hs2 = hs) (h : K t hp) (hy : ρ y = .fn (.func f) cap := by exact rfl)
    (hx : Res (xs.map ρ ++ cap) asq := by repeat (first | exact res_nil | apply res_cons | exact re_own | exact re_ptr | exact re_refl | apply re_agg | apply re_cls | exact rzs_nil | apply rzs_cons | exact rz_c | exact rz_nil rfl | apply rz_agg | apply rz_fn | apply rz_tup)) (hsl : selB hp sel = some hs := by exact rfl) (hf : freshB sel = true := by exact rfl) :
    LO P F ⟨d, .call { callee := .value y, args := xs.toArray, argTypes := ats }, ty, pos, aft, g⟩ ρ hp K :=
  lo_callG sel hc (fun M u hu => by rw [hy] at hu; simpa only [RA] using hu) hx hsl hf fun r hs2 hR' => by
    obtain ⟨rfl, rfl⟩ := hR r hs2 hR'
    exact ⟨_, re_refl, Nat.le_of_eq (selB_len hsl), by rw [putB_same hsl]; exact h⟩
end
end Go.Proofs.Ytldhlbjengpdbaa
namespace Go.Proofs.Ytldhlbjengpdbaa
/-- may the byte x stand at place i of a name? -/
def okN (i x : Nat) : Bool := decide (97 ≤ x ∧ x ≤ 122) || (decide (i ≠ 0) && (decide (x = 95) || decide (48 ≤ x ∧ x ≤ 57)))
def okTo (s : List UInt8) (k : Nat) : Prop := ∀ j (h : j < s.length), j < k → okN j (s[j]).toNat = true
/-- is it a name? -/
noncomputable def nameOk (s : List UInt8) : Bool := @decide (s ≠ [] ∧ s.length ≤ 16 ∧ okTo s s.length) (Classical.propDecidable _)
end Go.Proofs.Ytldhlbjengpdbaa
namespace Go.Proofs.Ytldhlbjengpdbaa
open Go.RowKit
structure Md where
  name : ByteArray
  version : Int
  uses : List Us
def Md.ts : Md → List T
  | ⟨f_name, f_version, f_uses⟩ => [.lit (.string f_name), .lit (.int .i64 f_version), Us.row f_uses]
theorem Md.ts_len (x : Md) : x.ts.length = 3 := by simp [Md.ts]
def Md.t (x : Md) : T := .agg x.ts
def Md.row (l : List Md) : T := .row l.length 3 (l.flatMap Md.ts)
theorem Md.at {l : List Md} {k : Nat} {x : Md} (h : l[k]? = some x) : ((l.flatMap Md.ts).drop (k * 3)).take 3 = x.ts := flat_at Md.ts 3 Md.ts_len h
def Md.size : Md → Nat
  | ⟨f_name, _, f_uses⟩ => f_name.size + Us.sizes f_uses + 1
def Md.sizes (l : List Md) : Nat := (l.map Md.size).sum
theorem Md.size_mem {x : Md} {l : List Md} (h : x ∈ l) : x.size ≤ Md.sizes l := sum_mem' Md.size h
instance : Inhabited Md := ⟨⟨⟨#[]⟩, 0, []⟩⟩
structure Pk where
  name : ByteArray
  version : Int
def Pk.ts : Pk → List T
  | ⟨f_name, f_version⟩ => [.lit (.string f_name), .lit (.int .i64 f_version)]
theorem Pk.ts_len (x : Pk) : x.ts.length = 2 := by simp [Pk.ts]
def Pk.t (x : Pk) : T := .agg x.ts
def Pk.row (l : List Pk) : T := .row l.length 2 (l.flatMap Pk.ts)
theorem Pk.at {l : List Pk} {k : Nat} {x : Pk} (h : l[k]? = some x) : ((l.flatMap Pk.ts).drop (k * 2)).take 2 = x.ts := flat_at Pk.ts 2 Pk.ts_len h
def Pk.size : Pk → Nat
  | ⟨f_name, _⟩ => f_name.size + 1
def Pk.sizes (l : List Pk) : Nat := (l.map Pk.size).sum
theorem Pk.size_mem {x : Pk} {l : List Pk} (h : x ∈ l) : x.size ≤ Pk.sizes l := sum_mem' Pk.size h
instance : Inhabited Pk := ⟨⟨⟨#[]⟩, 0⟩⟩
noncomputable def useE (u : Us) : Int := if nameOk u.name.data.toList then (if u.low < 1 ∨ 9999 < u.high ∨ u.high < u.low then 1 else 0) else 11
noncomputable def usesE : List Us → Int
  | [] => 0
  | u :: r => if useE u = 0 then usesE r else useE u
noncomputable def wantsE (l : List Us) : Int := if 5 < l.length then 2 else usesE l
noncomputable def modE (m : Md) : Int := if nameOk m.name.data.toList then (if m.version < 1 ∨ 9999 < m.version then 1 else wantsE m.uses) else 11
def mordB (p m : Md) : Bool := strLt p.name m.name || (decide (p.name = m.name) && decide (p.version < m.version))
def ordE (p : Option Md) (m : Md) : Int := match p with | some q => if mordB q m then 0 else 21 | none => 0
noncomputable def modsE (p : Option Md) : List Md → Int
  | [] => 0
  | m :: r => if modE m = 0 then (if ordE p m = 0 then modsE (some m) r else ordE p m) else modE m
noncomputable def checkE (l : List Md) : Int := if 30 < l.length then 2 else modsE none l
def hitB (nm : ByteArray) (v : Int) (m : Md) : Bool := decide (m.name = nm) && decide (m.version = v)
def pv (ps : List Pk) (nm : ByteArray) : Option Int := (ps.find? fun p => decide (p.name = nm)).map Pk.version
def usOf (l : List Md) (nm : ByteArray) (v : Int) : Option (List Us) := (l.find? (hitB nm v)).map Md.uses
def okU (l : List Md) (ps : List Pk) (u : Us) : Option (List Us) :=
  match pv ps u.name with
  | none => none
  | some v => if v < u.low ∨ u.high < v then none else usOf l u.name v
inductive Runs (l : List Md) (ps : List Pk) : List Us → List ByteArray → Option (List ByteArray) → Prop where
  | done (R : List ByteArray) : Runs l ps [] R (some R)
  | bad {u : Us} {q : List Us} {R : List ByteArray} (h : okU l ps u = none) : Runs l ps (u :: q) R none
  | old {u : Us} {q : List Us} {R : List ByteArray} {r : Option (List ByteArray)} {us : List Us} (h : okU l ps u = some us) (hm : u.name ∈ R) (hr : Runs l ps q R r) : Runs l ps (u :: q) R r
  | new {u : Us} {q : List Us} {R : List ByteArray} {r : Option (List ByteArray)} {us : List Us} (h : okU l ps u = some us) (hm : u.name ∉ R) (hr : Runs l ps (q ++ us) (R ++ [u.name]) r) : Runs l ps (u :: q) R r
theorem Runs.det {l : List Md} {ps : List Pk} {q : List Us} {R : List ByteArray} {r r' : Option (List ByteArray)} (h : Runs l ps q R r) (h' : Runs l ps q R r') : r = r' := by
  induction h with
  | done R => cases h'; rfl
  | bad h =>
    cases h' with
    | bad _ => rfl
    | old h2 _ _ => rw [h] at h2; cases h2
    | new h2 _ _ => rw [h] at h2; cases h2
  | old h hm hr ih =>
    cases h' with
    | bad h2 => rw [h] at h2; cases h2
    | old h2 _ h3 => exact ih h3
    | new _ h2 _ => exact absurd hm h2
  | new h hm hr ih =>
    cases h' with
    | bad h2 => rw [h] at h2; cases h2
    | old _ h2 _ => exact absurd h2 hm
    | new h2 _ h3 =>
      rw [h] at h2
      injection h2 with h2
      subst h2
      exact ih h3
def leB (a b : ByteArray) : Bool := strLt a b || decide (a = b)
def ascR : ByteArray → List Pk → Bool
  | _, [] => true
  | last, p :: r => !leB p.name last && ascR p.name r
def runOut (ps : List Pk) (r : Option (List ByteArray)) : Bool := match r with | none => false | some R => decide (R.length = ps.length)
/-- what both answer -/
def RightIs (l : List Md) (root : List Us) (ps : List Pk) (b : Bool) : Prop :=
  ((checkE l ≠ 0 ∨ wantsE root ≠ 0 ∨ ascR ⟨#[]⟩ ps = false) ∧ b = false) ∨
  (checkE l = 0 ∧ wantsE root = 0 ∧ ascR ⟨#[]⟩ ps = true ∧ ∃ r, Runs l ps root [] r ∧ b = runOut ps r)
theorem RightIs.det {l : List Md} {root : List Us} {ps : List Pk} {b b' : Bool} (h : RightIs l root ps b) (h' : RightIs l root ps b') : b = b' := by
  rcases h with ⟨h1, rfl⟩ | ⟨h1, h2, h3, r, h4, rfl⟩
  · rcases h' with ⟨_, rfl⟩ | ⟨g1, g2, g3, _⟩
    · rfl
    · rcases h1 with h1 | h1 | h1
      · exact absurd g1 h1
      · exact absurd g2 h1
      · rw [g3] at h1; cases h1
  · rcases h' with ⟨g1, rfl⟩ | ⟨g1, g2, g3, r', h5, rfl⟩
    · rcases g1 with g1 | g1 | g1
      · exact absurd h1 g1
      · exact absurd h2 g1
      · rw [h3] at g1; cases g1
    · rw [h4.det h5]
end Go.Proofs.Ytldhlbjengpdbaa
namespace Go.Proofs.Ytldhlbjengpdbaa
open Go.RowKit
def bl (s : ByteArray) : List UInt8 := s.data.toList
def ofB (l : List UInt8) : ByteArray := ⟨l.toArray⟩
theorem ofB_bl (s : ByteArray) : ofB (bl s) = s := by cases s; simp [ofB, bl]
theorem bl_ofB (l : List UInt8) : bl (ofB l) = l := by simp [ofB, bl]
theorem bl_inj {a b : ByteArray} (h : bl a = bl b) : a = b := by rw [← ofB_bl a, h, ofB_bl]
def leL (x y : List UInt8) : Bool := decide (x ≤ y)
theorem leL_trans (a b c : List UInt8) (h : leL a b = true) (h' : leL b c = true) : leL a c = true := by
  unfold leL at *
  rw [decide_eq_true_eq] at *
  exact List.le_trans h h'
theorem leL_total (a b : List UInt8) : (leL a b || leL b a) = true := by
  unfold leL
  rw [Bool.or_eq_true, decide_eq_true_eq, decide_eq_true_eq]
  exact List.le_total a b
theorem leL_anti {a b : List UInt8} (h : leL a b = true) (h' : leL b a = true) : a = b := by
  unfold leL at *
  rw [decide_eq_true_eq] at *
  exact List.le_antisymm h h'
/-- texts, sorted -/
def sortB (l : List ByteArray) : List ByteArray := ((l.map bl).mergeSort leL).map ofB
theorem sortB_perm (l : List ByteArray) : (sortB l).Perm l := by
  unfold sortB
  have h := (List.mergeSort_perm (l.map bl) leL).map ofB
  rw [List.map_map, show (ofB ∘ bl) = id from funext ofB_bl, List.map_id] at h
  exact h
theorem sortB_len (l : List ByteArray) : (sortB l).length = l.length := (sortB_perm l).length_eq
theorem rts_strs {M : Mm} : ∀ {l : List ByteArray} {xs : List Value}, RTs M (l.flatMap strTs) xs → xs = l.map Value.string
  | [], _, h => by simpa [RTs] using h
  | s :: l, xs, h => by
    simp only [List.flatMap_cons, strTs, List.cons_append, List.nil_append, RTs, RT] at h
    obtain ⟨x, r1, rfl, rfl, h⟩ := h
    rw [rts_strs h]
    rfl
theorem strs_rts {M : Mm} : ∀ (l : List ByteArray), RTs M (l.flatMap strTs) (l.map Value.string)
  | [] => by simp [RTs]
  | s :: l => by
    simp only [List.flatMap_cons, strTs, List.cons_append, List.nil_append, List.map_cons, RTs, RT]
    exact ⟨_, _, rfl, rfl, strs_rts l⟩
theorem strs_one (l : List ByteArray) : OneAll (l.map Value.string) := fun x hx => by
  obtain ⟨s, _, rfl⟩ := List.mem_map.1 hx
  rfl
theorem enc_ofB (l : List (List UInt8)) : l.map Go.Proofs.encStr = (l.map ofB).map Value.string := by
  rw [List.map_map]
  rfl
theorem map_ofB (l : List ByteArray) : (l.map bl).map ofB = l := by
  rw [List.map_map, show (ofB ∘ bl) = id from funext ofB_bl, List.map_id]
theorem enc_bl (l : List ByteArray) : (l.map bl).map Go.Proofs.encStr = l.map Value.string := by
  rw [enc_ofB, map_ofB]
theorem put_heap {α : Type} [Inhabited α] (enc : α → Value) (w : World) (n blk off : Nat) (d : Array α) (os : Array Obj) (hb : blk < w.heap.size) :
    (∀ b, b < w.heap.size → b ≠ blk → (Sort.grow (Sort.putRow enc (Sort.ahead w n) blk off d) os).heap[b]? = w.heap[b]?) ∧
    (∀ cur e fr, w.heap[blk]? = some (.cells cur e fr) → (Sort.grow (Sort.putRow enc (Sort.ahead w n) blk off d) os).heap[blk]? = some (.cells (Sort.putCells enc off d cur) e fr)) ∧ w.heap.size ≤ (Sort.grow (Sort.putRow enc (Sort.ahead w n) blk off d) os).heap.size := by
  have hh : (Sort.grow (Sort.putRow enc (Sort.ahead w n) blk off d) os).heap = w.heap.modify blk (Sort.onCells (Sort.putCells enc off d)) ++ os := rfl
  rw [hh]
  refine ⟨fun b h1 h2 => ?_, fun cur e fr h => ?_, by rw [Array.size_append, Array.size_modify]; omega⟩
  · rw [Array.getElem?_append_left (by rw [Array.size_modify]; exact h1), Array.getElem?_modify, if_neg (Ne.symm h2)]
  · rw [Array.getElem?_append_left (by rw [Array.size_modify]; exact hb), Array.getElem?_modify, if_pos rfl, h]
    rfl
theorem putEnc_list {α : Type} [Inhabited α] (enc : α → Value) (d : Array α) (cur : Array Value) (off : Nat) (h : off + d.size ≤ cur.size) : ((Sort.putCells enc off d cur).toList.drop off).take d.size = d.toList.map enc := by
  apply List.ext_getElem?
  intro t
  rw [List.getElem?_take]
  by_cases h1 : t < d.size
  · rw [if_pos h1, List.getElem?_drop, Array.getElem?_toList, List.getElem?_map, Array.getElem?_toList, Array.getElem?_eq_getElem h1]
    have h2 : off + t < (Sort.putCells enc off d cur).size := by simp only [Sort.putCells, Array.size_mapIdx]; omega
    rw [Array.getElem?_eq_getElem h2]
    simp only [Sort.putCells, Array.getElem_mapIdx]
    rw [if_pos ⟨by omega, by omega⟩, show off + t - off = t by omega, getElem!_pos d t h1]
    rfl
  · rw [if_neg h1, List.getElem?_map, Array.getElem?_toList, Array.getElem?_eq_none (by omega)]
    rfl
/-- a step that writes the cells of the one block, and makes others -/
theorem sorted_heap {F : Frm} {M : Mm} {w w' : World} {v v' : Value} {e : TypeId} {sz n n' : Nat} {ts ts' : List T} {g0 : Nat} (hM : HeapOk F M [.row v e sz n ts] w) (hv : v.ownBlock = some g0) (hv' : v'.ownBlock = some g0)
    (hos : w'.os = w.os) (htape : w'.tape = w.tape) (hout : w'.output = w.output) (hsz : w.heap.size ≤ w'.heap.size) (hother : ∀ b, b < w.heap.size → b ≠ g0 → w'.heap[b]? = w.heap[b]?) (hx : BlkOk M w' (.row v' e sz n' ts')) : HeapOk F M [.row v' e sz n' ts'] w' := by
  refine hM.step 0 hos htape hout hsz (fun b hb hne => hother b hb fun h => ?_) (Ext.refl _ _) (fun p v h1 h2 => by rw [h2] at h1; cases h1) (fun j hj => ?_) (fun x' hx' => ?_)
  · exact hne _ rfl (by rw [h]; exact hv)
  · cases j with
    | zero => exact absurd rfl hj
    | succ j => rfl
  · obtain rfl : _ = x' := by simpa using hx'
    exact ⟨hx, fun b hb => .inl ⟨_, rfl, hv.trans (hv'.symm.trans hb)⟩⟩
set_option maxHeartbeats 1000000 in
theorem sortS_ag {P : Program} {ρ : Shelf.Ren} (L : SlLaysM.n6 P ρ) (hE : Enters P (ρ.f 6)) (l : List ByteArray) (hlen : l.length ≤ 4611686018427387) (v : Value) (e : TypeId) :
    AG P (ρ.f 6) [.own 0 v] [.row v e 1 l.length (l.flatMap strTs)] (fun r hs => r = .tup [] ∧ hs = [.row v e 1 (sortB l).length ((sortB l).flatMap strTs)]) := by
  refine ⟨hE, fun F M w vs hM hv => ?_⟩
  simp only [RAs, RA] at hv
  obtain ⟨u, r1, rfl, ⟨rfl, -⟩, rfl⟩ := hv
  obtain ⟨xs, ho, hx, h1, h2⟩ := hM.at_ 0 _ rfl
  obtain rfl := rts_strs hx
  have hsl := sortB_len l
  rcases ho.2 with ⟨rfl, h0⟩ | ⟨g0, off, cap, cur, rfl, hg, hnc, hcm, hcs, htk⟩
  · obtain rfl : l = [] := List.length_eq_zero_iff.1 h0
    refine (AnyM.slices_Sort_string_none L none 0 w).mono fun e' w' ⟨he, hw⟩ => ?_
    subst hw
    exact ⟨_, .tup [], _, M, he, ⟨rfl, rfl⟩, Ext.refl _ _, (by rw [show sortB [] = [] by simp [sortB]]; exact hM), by simp only [RA, RAs]; exact ⟨[], rfl, rfl⟩⟩
  · have hblk : g0 < w.heap.size := (Array.getElem?_eq_some_iff.1 hg).1
    have hl2 : (l.map bl).length = l.length := List.length_map _
    have hH : Sort.Holds Go.Proofs.encStr w g0 off (l.map bl).toArray := by
      intro j hj
      have hj1 : j < l.length := by simpa using hj
      have hj2 : (l.map Value.string)[j]? = some (Go.Proofs.encStr (l.map bl).toArray[j]!) := by
        rw [← enc_bl, List.getElem?_map, getElem!_pos (l.map bl).toArray j (by simpa using hj1)]
        simp [hj1]
      refine ⟨?_, ?_⟩
      · have := ho.cells j _ hj2
        rwa [offs_add] at this
      · simp only [World.frozen?, hg]
        simp
    have hcon := AnyM.slices_Sort_string L g0 off cap (l.map bl) w hH hblk (by rw [hl2]; omega)
    rw [hl2] at hcon
    refine hcon.mono fun e' w' ⟨he, n, os, hw⟩ => ?_
    have hfz : (((l.map bl).mergeSort leL).toArray).size = l.length := by simp [(List.mergeSort_perm (l.map bl) leL).length_eq]
    obtain ⟨hW1, hW2, hW3⟩ := put_heap Go.Proofs.encStr w n g0 off ((l.map bl).mergeSort leL).toArray os hblk
    have hW4 := hW2 cur e (0, 0) hg
    have hww : w' = Sort.grow (Sort.putRow Go.Proofs.encStr (Sort.ahead w n) g0 off ((l.map bl).mergeSort leL).toArray) os := hw
    rw [← hww] at hW1 hW3 hW4
    have hos : w'.os = w.os ∧ w'.tape = w.tape ∧ w'.output = w.output := by rw [hww]; exact ⟨rfl, rfl, rfl⟩
    clear hw hww hcon hW2 hH
    have hcz : off + (((l.map bl).mergeSort leL).toArray).size ≤ cur.size := by
      rw [hfz]
      omega
    have hown : OwnsO w' e 1 (.slice (some ⟨g0, off, none⟩) l.length cap) l.length ((sortB l).map Value.string) := by
      refine ⟨by rw [List.length_map, hsl, Nat.mul_one], .inr ⟨g0, off, cap, _, rfl, hW4, hnc, hcm, by simp only [Sort.putCells, Array.size_mapIdx]; exact hcs, ?_⟩⟩
      have := putEnc_list Go.Proofs.encStr ((l.map bl).mergeSort leL).toArray cur off hcz
      rw [hfz, List.toList_toArray, enc_ofB] at this
      rw [Nat.mul_one]
      exact this
    refine ⟨_, .tup [], _, M, he, ⟨rfl, rfl⟩, Ext.refl _ _, ?_, by simp only [RA, RAs]; exact ⟨[], rfl, rfl⟩⟩
    rw [hsl]
    exact sorted_heap hM rfl rfl hos.1 hos.2.1 hos.2.2 hW3 hW1 ⟨_, hown, strs_rts _, strs_one _, by omega⟩
end Go.Proofs.Ytldhlbjengpdbaa
namespace Go.Proofs.Ytldhlbjengpdbaa
open Go.RowKit
theorem nodup_keeps {zs : List (List UInt8)} (hs : zs.Pairwise fun a b => leL a b = true) (hk : ∀ j, j < zs.length → Lib.keeps zs.toArray j = true) : zs.Nodup := by
  rw [List.nodup_iff_pairwise_ne, List.pairwise_iff_getElem]
  intro i j hi hj hij e
  have hp := List.pairwise_iff_getElem.1 hs
  have h := hk j hj
  unfold Lib.keeps at h
  have h := of_decide_eq_true h
  have h : zs.toArray[j]! ≠ zs.toArray[j - 1]! := by
    rcases h with h | h
    · omega
    · exact h
  rw [getElem!_pos zs.toArray j (by simpa using hj), getElem!_pos zs.toArray (j - 1) (by simp; omega)] at h
  simp only [List.getElem_toArray] at h
  apply h
  by_cases hij1 : i = j - 1
  · subst hij1; exact e.symm
  · have h1 := hp i (j - 1) hi (by omega) (by omega)
    have h2 := hp (j - 1) j (by omega) hj (by omega)
    rw [e] at h1
    exact leL_anti h1 h2
theorem keeps_nodup {zs : List (List UInt8)} (hn : zs.Nodup) : ∀ j, j < zs.length → Lib.keeps zs.toArray j = true := by
  intro j hj
  by_cases h0 : j = 0
  · subst h0; exact Lib.keeps_lt_one _ _ (by omega)
  · refine Lib.keeps_pos ?_
    rw [getElem!_pos zs.toArray j (by simpa using hj), getElem!_pos zs.toArray (j - 1) (by simp; omega)]
    simp only [List.getElem_toArray]
    intro e
    rw [List.nodup_iff_pairwise_ne, List.pairwise_iff_getElem] at hn
    exact hn (j - 1) j (by omega) hj (by omega) e.symm
theorem compact_lt {zs : List (List UInt8)} (hs : zs.Pairwise fun a b => leL a b = true) : (Lib.compact zs).length < zs.length ↔ ¬ zs.Nodup := by
  constructor
  · intro h hn
    rw [Lib.compact_all zs (keeps_nodup hn)] at h
    omega
  · intro h
    obtain ⟨j, hj, hk⟩ : ∃ j, j < zs.length ∧ Lib.keeps zs.toArray j = false := Classical.byContradiction fun hno => h (nodup_keeps hs fun j hj => by
      cases hk : Lib.keeps zs.toArray j with
      | true => rfl
      | false => exact absurd ⟨j, hj, hk⟩ hno)
    unfold Lib.compact Lib.compactUpTo
    rw [List.length_map]
    have := List.length_filter_lt_length_iff_exists.2 ⟨j, List.mem_range.2 hj, (by rw [hk]; decide : ¬ Lib.keeps zs.toArray j = true)⟩
    rwa [List.length_range] at this
def cmpB (l : List ByteArray) : List ByteArray := (Lib.compact (l.map bl)).map ofB
theorem cmp_sort (l : List ByteArray) : decide ((((cmpB (sortB l)).length : Nat) : Int) < ((l.length : Nat) : Int)) = twB l := by
  have hm : (sortB l).map bl = (l.map bl).mergeSort leL := by
    unfold sortB
    rw [List.map_map]
    conv => rhs; rw [← List.map_id ((l.map bl).mergeSort leL)]
    refine List.map_congr_left fun x _ => ?_
    simp [Function.comp, bl_ofB]
  unfold cmpB
  rw [List.length_map, hm]
  have hp := List.mergeSort_perm (l.map bl) leL
  have hs : ((l.map bl).mergeSort leL).Pairwise fun a b => leL a b = true := List.pairwise_mergeSort (fun a b c h h' => leL_trans a b c h h') (fun a b => leL_total a b) _
  have hlen : ((l.map bl).mergeSort leL).length = l.length := by rw [hp.length_eq, List.length_map]
  have hc := compact_lt hs
  rw [hlen] at hc
  have hnd : ((l.map bl).mergeSort leL).Nodup ↔ l.Nodup := by
    rw [hp.nodup_iff]
    constructor
    · intro h
      rw [List.nodup_iff_pairwise_ne, List.pairwise_map] at h
      rw [List.nodup_iff_pairwise_ne]
      exact h.imp fun hab e => hab (congrArg bl e)
    · intro h
      rw [List.nodup_iff_pairwise_ne] at h ⊢
      exact List.Pairwise.map _ (fun a b hab e => hab (bl_inj e)) h
  rw [Bool.eq_iff_iff, decide_eq_true_iff, twB_iff, ← hnd, ← hc]
  omega
theorem cmpB_le (l : List ByteArray) : (cmpB l).length ≤ l.length := by
  unfold cmpB
  rw [List.length_map]
  unfold Lib.compact Lib.compactUpTo
  rw [List.length_map]
  refine Nat.le_trans (List.length_filter_le _ _) ?_
  rw [List.length_range, List.length_map]
  exact Nat.le_refl _
set_option maxHeartbeats 1000000 in
theorem compactS_ag {P : Program} {ρ : Shelf.Ren} (L : Lays.n194 P ρ) (hE : Enters P (ρ.f 194)) (l : List ByteArray) (hlen : l.length ≤ 4611686018427387) (v : Value) (e : TypeId) :
    AG P (ρ.f 194) [.own 0 v] [.row v e 1 l.length (l.flatMap strTs)] (fun r hs => ∃ v', r = .own 0 v' ∧ hs = [.row v' e 1 (cmpB l).length ((cmpB l).flatMap strTs)]) := by
  refine ⟨hE, fun F M w vs hM hv => ?_⟩
  simp only [RAs, RA] at hv
  obtain ⟨u, r1, rfl, ⟨rfl, -⟩, rfl⟩ := hv
  obtain ⟨xs, ho, hx, h1, h2⟩ := hM.at_ 0 _ rfl
  obtain rfl := rts_strs hx
  rcases ho.2 with ⟨rfl, h0⟩ | ⟨g0, off, cap, cur, rfl, hg, hnc, hcm, hcs, htk⟩
  · obtain rfl : l = [] := List.length_eq_zero_iff.1 h0
    refine (Any.slices_Compact_string_empty L none 0 w).mono fun e' w' ⟨he, hw⟩ => ?_
    subst hw
    exact ⟨_, .own 0 (.slice none 0 0), _, M, he, ⟨_, rfl, rfl⟩, Ext.refl _ _, (by rw [show cmpB [] = [] by simp [cmpB, Lib.compact, Lib.compactUpTo]]; exact hM), by simp only [RA]; exact ⟨trivial, rfl⟩⟩
  · have hblk : g0 < w.heap.size := (Array.getElem?_eq_some_iff.1 hg).1
    have hl2 : (l.map bl).length = l.length := List.length_map _
    have hkl := cmpB_le l
    have hkk : (cmpB l).length = (Lib.compact (l.map bl)).length := by unfold cmpB; rw [List.length_map]
    have hH : Sort.Holds Go.Proofs.encStr w g0 off (l.map bl).toArray := by
      intro j hj
      have hj1 : j < l.length := by simpa using hj
      have hj2 : (l.map Value.string)[j]? = some (Go.Proofs.encStr (l.map bl).toArray[j]!) := by
        rw [← enc_bl, List.getElem?_map, getElem!_pos (l.map bl).toArray j (by simpa using hj1)]
        simp [hj1]
      refine ⟨?_, ?_⟩
      · have := ho.cells j _ hj2
        rwa [offs_add] at this
      · simp only [World.frozen?, hg]
        simp
    have hcon := Any.slices_Compact_string L g0 off cap (l.map bl) w hH (by rw [hl2]; omega) (by rw [hl2]; exact hnc)
    rw [hl2] at hcon
    refine hcon.mono fun e' w' ⟨he, q, hw⟩ => ?_
    generalize hD : (Lib.compact (l.map bl) ++ List.replicate (l.length - (Lib.compact (l.map bl)).length) []) = D at hw
    have hDl : D.length = l.length := by rw [← hD, List.length_append, List.length_replicate]; omega
    have hDt : D.take (cmpB l).length = Lib.compact (l.map bl) := by rw [hkk, ← hD, List.take_left]
    have hfz : D.toArray.size = l.length := by simpa using hDl
    have hgr : w' = Sort.grow (Sort.putRow Go.Proofs.encStr (Sort.ahead w q) g0 off D.toArray) #[] := by rw [hw]; simp [Sort.grow]; rfl
    obtain ⟨hW1, hW2, hW3⟩ := put_heap Go.Proofs.encStr w q g0 off D.toArray #[] hblk
    have hW4 := hW2 cur e (0, 0) hg
    rw [← hgr] at hW1 hW3 hW4
    have hos : w'.os = w.os ∧ w'.tape = w.tape ∧ w'.output = w.output := by rw [hw]; exact ⟨rfl, rfl, rfl⟩
    clear hw hgr hcon hW2 hH
    have hcz : off + D.toArray.size ≤ cur.size := by
      rw [hfz]
      omega
    have hown : OwnsO w' e 1 (.slice (some ⟨g0, off, none⟩) l.length cap) l.length (D.map Go.Proofs.encStr) := by
      refine ⟨by rw [List.length_map, hDl, Nat.mul_one], .inr ⟨g0, off, cap, _, rfl, hW4, hnc, hcm, by simp only [Sort.putCells, Array.size_mapIdx]; exact hcs, ?_⟩⟩
      have := putEnc_list Go.Proofs.encStr D.toArray cur off hcz
      rw [hfz, List.toList_toArray] at this
      rw [Nat.mul_one]
      exact this
    have hown2 := hown.take hkl
    rw [Nat.mul_one, ← List.map_take, hDt, enc_ofB] at hown2
    rw [← hkk] at he
    refine ⟨_, .own 0 (.slice (some ⟨g0, off, none⟩) (cmpB l).length cap), _, M, he, ⟨_, rfl, rfl⟩, Ext.refl _ _, ?_, by simp only [RA]; exact ⟨trivial, rfl⟩⟩
    exact sorted_heap hM rfl rfl hos.1 hos.2.1 hos.2.2 hW3 hW1 ⟨_, hown2, strs_rts _, strs_one _, by omega⟩
end Go.Proofs.Ytldhlbjengpdbaa
namespace Go.Proofs.Ytldhlbjengpdbaa
open Go.Shelf
def sortStr_ren : Go.Shelf.Ren := ⟨fun | 6 => 34 | 8 => 42 | 9 => 41 | 19 => 54 | 20 => 55 | 21 => 45 | 22 => 46 | 23 => 47 | 24 => 48 | 25 => 49 | 26 => 50 | 27 => 51 | 28 => 52 | 29 => 53 | 36 => 56 | 31 => 57 | 32 => 58 | 37 => 59 | 38 => 60 | 39 => 61 | 41 => 62 | n => n, fun | 27 => 30 | 29 => 9 | 3 => 3 | 32 => 99 | 26 => 30 | 0 => 0 | 44 => 111 | 46 => 113 | 4 => 4 | 36 => 104 | 35 => 103 | 41 => 64 | 5 => 5 | 9 => 9 | 53 => 114 | 57 => 118 | 63 => 121 | 64 => 122 | n => n, fun | n => n⟩
theorem sortStr : Go.Proofs.SlLaysM.n6 Try.prog sortStr_ren := {
  mixed := by kernel_rfl
  f6 := ⟨Try.f34.name, by decide, Try.func34.trans (congrArg some (by kernel_rfl))⟩
  f8 := Try.func42.trans (congrArg some (by kernel_rfl))
  f9 := ⟨Try.f41.name, by decide, Try.func41.trans (congrArg some (by kernel_rfl))⟩
  f19 := Try.func54.trans (congrArg some (by kernel_rfl))
  f20 := Try.func55.trans (congrArg some (by kernel_rfl))
  f21 := ⟨Try.f45.name, by decide, Try.func45.trans (congrArg some (by kernel_rfl))⟩
  f22 := ⟨Try.f46.name, by decide, Try.func46.trans (congrArg some (by kernel_rfl))⟩
  f23 := ⟨Try.f47.name, by decide, Try.func47.trans (congrArg some (by kernel_rfl))⟩
  f24 := ⟨Try.f48.name, by decide, Try.func48.trans (congrArg some (by kernel_rfl))⟩
  f25 := ⟨Try.f49.name, by decide, Try.func49.trans (congrArg some (by kernel_rfl))⟩
  f26 := ⟨Try.f50.name, by decide, Try.func50.trans (congrArg some (by kernel_rfl))⟩
  f27 := ⟨Try.f51.name, by decide, Try.func51.trans (congrArg some (by kernel_rfl))⟩
  f28 := ⟨Try.f52.name, by decide, Try.func52.trans (congrArg some (by kernel_rfl))⟩
  f29 := ⟨Try.f53.name, by decide, Try.func53.trans (congrArg some (by kernel_rfl))⟩
  f31 := Try.func57.trans (congrArg some (by kernel_rfl))
  f32 := Try.func58.trans (congrArg some (by kernel_rfl))
  f36 := ⟨Try.f56.name, by decide, Try.func56.trans (congrArg some (by kernel_rfl))⟩
  f37 := ⟨Try.f59.name, by decide, Try.func59.trans (congrArg some (by kernel_rfl))⟩
  f38 := ⟨Try.f60.name, by decide, Try.func60.trans (congrArg some (by kernel_rfl))⟩
  f39 := ⟨Try.f61.name, by decide, Try.func61.trans (congrArg some (by kernel_rfl))⟩
  f41 := ⟨Try.f62.name, by decide, Try.func62.trans (congrArg some (by kernel_rfl))⟩
  t0 := Try.underlying0
  a0 := Try.isAgg0
  z0 := Try.sizeOf0
  v0 := Try.zeroValue0
  t3 := Try.underlying3
  a3 := Try.isAgg3
  z3 := Try.sizeOf3
  v3 := Try.zeroValue3
  t4 := Try.underlying4
  a4 := Try.isAgg4
  z4 := Try.sizeOf4
  v4 := Try.zeroValue4
  t5 := Try.underlying5
  a5 := Try.isAgg5
  z5 := Try.sizeOf5
  v5 := Try.zeroValue5
  t9 := Try.underlying9
  a9 := Try.isAgg9
  z9 := Try.sizeOf9
  v9 := Try.zeroValue9
  t26 := Try.underlying30
  a26 := Try.isAgg30
  z26 := Try.sizeOf30
  v26 := Try.zeroValue30
  t27 := Try.underlying30
  a27 := Try.isAgg30
  z27 := Try.sizeOf30
  v27 := Try.zeroValue30
  t29 := Try.underlying9
  a29 := Try.isAgg9
  z29 := Try.sizeOf9
  v29 := Try.zeroValue9
  t32 := Try.underlying99
  a32 := Try.isAgg99
  z32 := Try.sizeOf99
  v32 := Try.zeroValue99
  t35 := Try.underlying103
  a35 := Try.isAgg103
  z35 := Try.sizeOf103
  v35 := Try.zeroValue103
  t36 := Try.underlying104
  a36 := Try.isAgg104
  z36 := Try.sizeOf104
  v36 := Try.zeroValue104
  t41 := Try.underlying64
  a41 := Try.isAgg64
  z41 := Try.sizeOf64
  v41 := Try.zeroValue64
  t44 := Try.underlying111
  a44 := Try.isAgg111
  z44 := Try.sizeOf111
  v44 := Try.zeroValue111
  t46 := Try.underlying113
  a46 := Try.isAgg113
  z46 := Try.sizeOf113
  v46 := Try.zeroValue113
  t53 := Try.underlying114
  a53 := Try.isAgg114
  z53 := Try.sizeOf114
  v53 := Try.zeroValue114
  t57 := Try.underlying118
  a57 := Try.isAgg118
  z57 := Try.sizeOf118
  v57 := Try.zeroValue118
  t63 := Try.underlying121
  a63 := Try.isAgg121
  z63 := Try.sizeOf121
  v63 := Try.zeroValue121
  t64 := Try.underlying122
  a64 := Try.isAgg122
  z64 := Try.sizeOf122
  v64 := Try.zeroValue122 }
def compStr_ren : Go.Shelf.Ren := ⟨fun | 194 => 35 | n => n, fun | 31 => 30 | 9 => 9 | 3 => 3 | 4 => 4 | 0 => 0 | n => n, fun | n => n⟩
theorem compStr : Go.Proofs.Lays.n194 Try.prog compStr_ren := {
  mixed := by kernel_rfl
  f194 := Try.func35.trans (congrArg some (by kernel_rfl))
  t0 := Try.underlying0
  a0 := Try.isAgg0
  z0 := Try.sizeOf0
  v0 := Try.zeroValue0
  t3 := Try.underlying3
  a3 := Try.isAgg3
  z3 := Try.sizeOf3
  v3 := Try.zeroValue3
  t4 := Try.underlying4
  a4 := Try.isAgg4
  z4 := Try.sizeOf4
  v4 := Try.zeroValue4
  t9 := Try.underlying9
  a9 := Try.isAgg9
  z9 := Try.sizeOf9
  v9 := Try.zeroValue9
  t31 := Try.underlying30
  a31 := Try.isAgg30
  z31 := Try.sizeOf30
  v31 := Try.zeroValue30 }
end Go.Proofs.Ytldhlbjengpdbaa
namespace Go.Proofs.Ytldhlbjengpdbaa
open Go.RowKit
/-- the place of a name among names -/
def posOf (s : ByteArray) (l : List ByteArray) : Int := idxI (fun x => decide (s = x)) l
set_option maxRecDepth 100000 in
set_option maxHeartbeats 1000000 in
theorem idxStr_af (l : List ByteArray) (s : ByteArray) : AF Try.prog 28 [strRow l, .lit (.string s)] (· = .lit (.int .i64 (posOf s l))) := by
  refine af_enter tok Try.func28 Try.ntmps28 Try.results28 rfl (by kernel_rfl) rfl rfl fun F hX => ?_
  repeat (first | refine gG ?_ | refine zN1 (fun hlen => ?_) | refine zN2 (fun hlen => ?_))
  refine x_loop [4, 5, 8, 9, 10, 11, 12, 13, 14, 15, 16, 17, 18] (fun k : Nat => [(8, .c (.lit (.int .i64 k)))]) (fun _ => []) (fun k => k ≤ l.length ∧ idxAt (fun x => decide (s = x)) l k) (fun k => l.length - k) 0 ⟨Nat.zero_le _, idxAt_zero _ l⟩ ⟨rfl, trivial⟩ rfl fun k hk => ?_
  repeat (first | refine gG ?_ | refine zN1 (fun hlen => ?_) | refine zN2 (fun hlen => ?_))
  refine x_cond rfl (fun h => ?_) (fun h => ?_)
  · have hk' : k < l.length := by simpa using h
    obtain ⟨a, ha⟩ := nth hk'
    have hat := str_at ha
    rw [← Nat.mul_one k] at hat
    repeat (first | refine gG ?_ | refine zN1 (fun hlen => ?_) | refine zN2 (fun hlen => ?_))
    refine zIx k hk' ?_
    repeat (first | refine gG ?_ | refine zN1 (fun hlen => ?_) | refine zN2 (fun hlen => ?_))
    refine zEl1 hat ?_
    cases hp : decide (s = a)
    · repeat (first | refine gG ?_ | refine zN1 (fun hlen => ?_) | refine zN2 (fun hlen => ?_))
      exact ⟨k + 1, ⟨hk', idxAt_no hk.2 ha hp⟩, by omega, x_wkd 0 ⟨rfl, trivial⟩ rfl (by repeat (first | exact ag_refl | refine ag_upd rfl ?_ | refine ag_at rfl rfl ?_))⟩
    · repeat (first | refine gG ?_ | refine zN1 (fun hlen => ?_) | refine zN2 (fun hlen => ?_))
      first | refine zR ?_ | refine zQ ?_
      rw [posOf, idxAt_yes hk.2 ha hp]; rfl
  · have hk' : k = l.length := by have : ¬ k < l.length := by simpa using h
                                  omega
    subst hk'
    repeat (first | refine gG ?_ | refine zN1 (fun hlen => ?_) | refine zN2 (fun hlen => ?_))
    first | refine zR ?_ | refine zQ ?_
    rw [posOf, idxAt_end hk.2]; rfl
theorem has_pos (s : ByteArray) (l : List ByteArray) : decide (0 ≤ posOf s l) = hasS l s := by
  rw [posOf, idxI_any, hasS]
  congr 1
  funext x
  exact decide_eq_decide.2 eq_comm
set_option maxRecDepth 100000 in
set_option maxHeartbeats 1000000 in
theorem contains_af (l : List ByteArray) (s : ByteArray) : AF Try.prog 15 [strRow l, .lit (.string s)] (· = .lit (.bool (hasS l s))) := by
  have hc := idxStr_af l s
  have hh := has_pos s l
  generalize posOf s l = p at *
  refine af_enter tok Try.func15 Try.ntmps15 Try.results15 rfl (by kernel_rfl) rfl rfl fun F hX => ?_
  repeat (first | refine gG ?_)
  refine zCall (hc) ?_
  rintro _ rfl
  repeat (first | refine gG ?_)
  first | refine zR ?_ | refine zQ ?_
  rw [← hh]
  rfl
abbrev Sd := Ex × List ByteArray
def Sd.ts (p : Sd) : List T := p.1.ts ++ [strRow p.2]
theorem Sd.ts_len (p : Sd) : (Sd.ts p).length = 9 := by rw [Sd.ts, List.length_append, Ex.ts_len]; rfl
def Sd.row (l : List Sd) : T := .row l.length 9 (l.flatMap Sd.ts)
theorem Sd.at {l : List Sd} {k : Nat} {p : Sd} (h : l[k]? = some p) : ((l.flatMap Sd.ts).drop (k * 9)).take 9 = Sd.ts p := flat_at Sd.ts 9 Sd.ts_len h
end Go.Proofs.Ytldhlbjengpdbaa
