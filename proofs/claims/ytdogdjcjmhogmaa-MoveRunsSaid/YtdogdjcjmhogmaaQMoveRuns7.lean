/-
  Texts of this proof, part 7: Ab50 Ab51 Koa Kob Ir.
-/
import Derived.Test.YtdogdjcjmhogmaaQMoveRuns6
import Derived.Lib.MinMax
import Derived.WideKeyEntry
namespace Go.Proofs.Ytdogdjcjmhogmaa
open Go.RowKit
/-- keys of a type, told by what they stand for: checked, found, kept -/
structure KeyR {α : Type} [DecidableEq α] (P : Program) (kT : TypeId) (κ : α → Value) : Prop where
  check : ∀ (em : Bool) (w : World) (a : α), (Instr.checkKey em 10000 kT (κ a)).run P w = .ok () w
  find : ∀ (w : World) (k : α) (l : List (α × T)) (es : List MapEntry), es.map (·.key) = l.map (fun p => κ p.1) →
    ((Instr.findKey kT (κ k) es).run P w = .ok none w ∧ mget k l = none ∧ (∀ t, mput k t l = l ++ [(k, t)]) ∧ mdel k l = l) ∨
    ∃ j e t, (Instr.findKey kT (κ k) es).run P w = .ok (some (j, e.val)) w ∧ es[j]? = some e ∧ l[j]? = some (k, t) ∧ mget k l = some t ∧ (∀ t', mput k t' l = l.set j (k, t')) ∧ mdel k l = l.eraseIdx j
  stays : ∀ (w : World) (a : α), (Instr.keyThatStays (κ a) (κ a)).run P w = .ok (κ a) w
theorem find_asking {α : Type} [DecidableEq α] {P : Program} {kT : TypeId} {κ : α → Value} (heq : ∀ (w : World) (a b : α), (Op.equal kT (κ a) (κ b)).run P w = .ok (decide (a = b)) w) (w : World) (k : α) : ∀ (l : List (α × T)) (es : List MapEntry) (i : Nat), es.map (·.key) = l.map (fun p => κ p.1) →
    ((Instr.findAsking kT (κ k) es i).run P w = .ok none w ∧ mget k l = none ∧ (∀ t, mput k t l = l ++ [(k, t)]) ∧ mdel k l = l) ∨
    ∃ j e t, (Instr.findAsking kT (κ k) es i).run P w = .ok (some (i + j, e.val)) w ∧ es[j]? = some e ∧ l[j]? = some (k, t) ∧ mget k l = some t ∧ (∀ t', mput k t' l = l.set j (k, t')) ∧ mdel k l = l.eraseIdx j
  | [], es, i, h => by
    obtain rfl : es = [] := by simpa using h
    exact .inl ⟨by simp [Instr.findAsking], rfl, fun _ => rfl, rfl⟩
  | (k', t') :: l, [], i, h => by simp at h
  | (k', t') :: l, e :: es, i, h => by
    simp only [List.map_cons, List.cons.injEq] at h
    have hr := heq w k k'
    rw [← h.1] at hr
    by_cases hk : k = k'
    · subst hk
      exact .inr ⟨0, e, t', by simp [Instr.findAsking, hr], rfl, rfl, by simp [mget], fun t => by simp [mput], by simp [mdel]⟩
    · simp only [hk, decide_false] at hr
      rcases find_asking heq w k l es (i + 1) h.2 with ⟨h1, h2, h3, h4⟩ | ⟨j, e', t, h1, h2, h3, h4, h5, h6⟩
      · exact .inl ⟨by simp [Instr.findAsking, hr, h1], by simp [mget, hk, h2], fun t => by simp [mput, hk, h3], by simp [mdel, hk, h4]⟩
      · exact .inr ⟨j + 1, e', t, by simp [Instr.findAsking, hr, h1, Nat.add_assoc, Nat.add_comm 1 j], by simpa using h2, by simpa using h3, by simp [mget, hk, h4], fun t => by simp [mput, hk, h5], by simp [mdel, hk, h6]⟩
theorem keyR_of {α : Type} [DecidableEq α] {P : Program} {kT : TypeId} {κ : α → Value} {dk : TypeDesc} (hu : P.underlying kT = some dk) (hn : ∀ a b, Instr.sameNow dk (κ a) (κ b) = none) (heq : ∀ (w : World) (a b : α), (Op.equal kT (κ a) (κ b)).run P w = .ok (decide (a = b)) w)
    (hc : ∀ (em : Bool) (w : World) (a : α), (Instr.checkKey em 10000 kT (κ a)).run P w = .ok () w) (hs : ∀ a : α, Instr.sameBits 10000 (κ a) (κ a) = true) : KeyR P kT κ := by
  refine ⟨hc, fun w k l es h => ?_, fun w a => ?_⟩
  · have hf : (Instr.findKey kT (κ k) es).run P w = (Instr.findAsking kT (κ k) es 0).run P w := by
      cases es with
      | nil => simp [Instr.findKey, run_underlying hu, Instr.findNow, Instr.findAsking]
      | cons e es =>
        cases l with
        | nil => simp at h
        | cons p l =>
          simp only [List.map_cons, List.cons.injEq] at h
          have := hn k p.1
          rw [← h.1] at this
          simp [Instr.findKey, run_underlying hu, Instr.findNow, this]
    rw [hf]
    rcases find_asking heq w k l es 0 h with h1 | ⟨j, e, t, h1, h2⟩
    · exact .inl h1
    · exact .inr ⟨j, e, t, by simpa using h1, h2⟩
  · unfold Instr.keyThatStays
    rw [if_pos (hs a)]
    rfl
def pairV {α : Type} (f : α → Value) (p : α × α) : Value := .agg #[f p.1, f p.2]
def isI64 (P : Program) (e : TypeId) : Bool := match P.underlying e with | some (.int .i64) => P.cellsOf e == 1 | _ => false
def isArr2 (P : Program) (t : TypeId) : Option TypeId := match P.underlying t with | some (.array 2 e) => some e | _ => none
def isSt2 (P : Program) (t : TypeId) : Option TypeId := match P.underlying t with
  | some (.struct fs) => match fs.toList with
    | [f, g] => if f.name ≠ "_" ∧ g.name ≠ "_" ∧ f.offset = 0 ∧ g.offset = 1 ∧ f.type = g.type ∧ P.stoodInHeld t = false then some f.type else none
    | _ => none
  | _ => none
/-- what a cell's type must bring -/
structure CellK {α : Type} [DecidableEq α] (P : Program) (e : TypeId) (f : α → Value) : Prop where
  plain : P.plainKey e = true
  cells : P.cellsOf e = 1
  eq : ∀ (d : Nat) (w : World) (a b : α), (Op.equalIn (d + 1) e (f a) (f b)).run P w = .ok (decide (a = b)) w
  ck : ∀ (em : Bool) (d : Nat) (w : World) (a : α), (Instr.checkKey em (d + 1) e (f a)).run P w = .ok () w
  bits : ∀ (d : Nat) (a : α), Instr.sameBits d (f a) (f a) = true
theorem cellI {P : Program} {e : TypeId} (h : isI64 P e = true) : CellK P e (Value.int .i64) := by
  unfold isI64 at h
  split at h
  · rename_i he
    have hc : P.cellsOf e = 1 := by simpa using h
    refine ⟨by simp [Program.plainKey, he], hc, fun d w a b => ?_, fun em d w a => ?_, fun d a => ?_⟩
    · simp only [Op.equalIn, Sem.run_bind, run_underlying he, Result.andThen_ok, if_true, Sem.run_pure]
      rfl
    · simp [Instr.checkKey, run_underlying he]
    · cases d <;> simp [Instr.sameBits]
  · cases h
theorem keyArr {α : Type} [DecidableEq α] {P : Program} {t e : TypeId} {f : α → Value} (h : isArr2 P t = some e) (c : CellK P e f) : KeyR P t (pairV f) := by
  have hu : P.underlying t = some (.array 2 e) := by
    unfold isArr2 at h
    split at h
    · rename_i e' he; injection h with h; rw [he, h]
    · cases h
  obtain ⟨i, hi⟩ : ∃ i, P.info? e = some i := by
    have := c.plain
    unfold Program.plainKey at this
    cases hue : P.underlying e with
    | none => simp [hue] at this
    | some _ => exact info_of_underlying hue
  refine keyR_of hu (fun a b => by rfl) (fun w a b => ?_) (fun em w a => ?_) (fun a => ?_)
  · have h1 := fun x y : α => run_part_plain (P := P) w c.plain (xs := #[f x, f y]) (off := 0) (v := f x) rfl
    have h2 := fun x y : α => run_part_plain (P := P) w c.plain (xs := #[f x, f y]) (off := 1) (v := f y) rfl
    show (Op.equalIn (9999 + 1) t (.agg #[f a.1, f a.2]) (.agg #[f b.1, f b.2])).run P w = _
    rw [run_equalIn_array w 9999 _ _ hu hi, c.cells]
    show (Op.eqItems 9999 e 1 _ _ [0, 1]).run P w = _
    simp only [Op.eqItems, Sem.run_bind, Nat.zero_mul, Nat.one_mul, h1, h2, Result.andThen_ok, c.eq 9998, Sem.run_pure]
    obtain ⟨a1, a2⟩ := a
    obtain ⟨b1, b2⟩ := b
    by_cases e1 : a1 = b1 <;> by_cases e2 : a2 = b2 <;> simp [e1, e2, h2, c.eq 9998]
  · have h1 := fun x y : α => run_part_plain (P := P) w c.plain (xs := #[f x, f y]) (off := 0) (v := f x) rfl
    have h2 := fun x y : α => run_part_plain (P := P) w c.plain (xs := #[f x, f y]) (off := 1) (v := f y) rfl
    have h3 : (sizeOf e).run P w = .ok 1 w := by rw [run_sizeOf w hi, c.cells]
    show (Instr.checkKey em (9999 + 1) t (.agg #[f a.1, f a.2])).run P w = _
    rw [Instr.checkKey]
    simp [run_underlying hu, h3, h1, h2, c.ck em 9998, Std.Legacy.Range.forIn_eq_forIn_range', List.range']
  · show Instr.sameBits (9999 + 1) (.agg #[f a.1, f a.2]) (.agg #[f a.1, f a.2]) = true
    simp [Instr.sameBits, c.bits]
theorem keySt {α : Type} [DecidableEq α] {P : Program} {t e : TypeId} {f : α → Value} (h : isSt2 P t = some e) (c : CellK P e f) : KeyR P t (pairV f) := by
  obtain ⟨fs, g1, g2, hu, hfs, hn1, hn2, ho1, ho2, ht1, ht2, hst⟩ : ∃ (fs : Array Field) (g1 g2 : Field), P.underlying t = some (.struct fs) ∧ fs.toList = [g1, g2] ∧ g1.name ≠ "_" ∧ g2.name ≠ "_" ∧ g1.offset = 0 ∧ g2.offset = 1 ∧ g1.type = e ∧ g2.type = e ∧ P.stoodInHeld t = false := by
    unfold isSt2 at h
    split at h
    · rename_i fs he
      split at h
      · rename_i g1 g2 hl
        split at h
        · rename_i hh
          injection h with h
          exact ⟨fs, g1, g2, he, hl, hh.1, hh.2.1, hh.2.2.1, hh.2.2.2.1, h, by rw [← hh.2.2.2.2.1, h], hh.2.2.2.2.2⟩
        · cases h
      · cases h
    · cases h
  obtain rfl : fs = #[g1, g2] := by cases fs; simp_all
  refine keyR_of hu (fun a b => by rfl) (fun w a b => ?_) (fun em w a => ?_) (fun a => ?_)
  · have h1 := fun x y : α => run_part_plain (P := P) w c.plain (xs := #[f x, f y]) (off := 0) (v := f x) rfl
    have h2 := fun x y : α => run_part_plain (P := P) w c.plain (xs := #[f x, f y]) (off := 1) (v := f y) rfl
    have hf : P.fieldsOf t = #[g1, g2] := by simp [Program.fieldsOf, hu]
    show (Op.equalIn (9999 + 1) t (.agg #[f a.1, f a.2]) (.agg #[f b.1, f b.2])).run P w = _
    rw [run_equalIn_struct w 9999 t _ _ (by rw [hf]; exact hu) hst, hf]
    show (Op.eqFields 9999 _ _ [g1, g2]).run P w = _
    simp only [Op.eqFields, hn1, hn2, ne_eq, not_false_eq_true, if_true, ho1, ho2, ht1, ht2, Sem.run_bind, h1, h2, Result.andThen_ok, c.eq 9998, Sem.run_pure]
    obtain ⟨a1, a2⟩ := a
    obtain ⟨b1, b2⟩ := b
    by_cases e1 : a1 = b1 <;> by_cases e2 : a2 = b2 <;> simp [e1, e2, h2, c.eq 9998]
  · have h1 := fun x y : α => run_part_plain (P := P) w c.plain (xs := #[f x, f y]) (off := 0) (v := f x) rfl
    have h2 := fun x y : α => run_part_plain (P := P) w c.plain (xs := #[f x, f y]) (off := 1) (v := f y) rfl
    show (Instr.checkKey em (9999 + 1) t (.agg #[f a.1, f a.2])).run P w = _
    rw [Instr.checkKey]
    simp [run_underlying hu, hn1, hn2, ho1, ho2, ht1, ht2, h1, h2, c.ck em 9998]
  · show Instr.sameBits (9999 + 1) (.agg #[f a.1, f a.2]) (.agg #[f a.1, f a.2]) = true
    simp [Instr.sameBits, c.bits]
section
variable {P : Program} {F : Frm} {L : Tab} {d : Option Tmp} {ty : TypeId} {pos : String} {aft : Array Edge} {g : Option (Nat × Bool)} {ρ : Operand → AV} {hp : List Blk} {K : AV → List Blk → Prop}
variable {α : Type} [DecidableEq α] {κ : α → Value} {xT kT eT : TypeId} {x y z : Operand} {i b : Nat} {l : List (α × T)} {k : α} {te : TI} {z0 : Value} {o : Option (List Nat × Nat)}
theorem lo_lookup_r (hκ : KeyR P kT κ) (hL : TabOk P L) (hu : P.underlying xT = some (.map kT eT)) (hte : L.look eT = some te) (hz : te.zero = [z0]) (ha : te.agg = false) (hx : ρ x = .own i (.map (some b))) (hi : hp[i]? = some (.mpx b (mkeys κ l) o)) (hy : ∀ M u, RA M (ρ y) u → u = κ k)
    (h : K (.c ((mget k l).getD (.lit z0))) hp) : LO P F ⟨d, .lookup xT x y false, ty, pos, aft, g⟩ ρ hp K := by
  refine LO.same (fun M e w he hh => ?_) h
  have h1 := he x (by first | (simp [Op.operands]; done) | simp [Op.operands, Call.operands])
  rw [hx] at h1
  simp only [RA] at h1
  have h2 := hy M _ (he y (by first | (simp [Op.operands]; done) | simp [Op.operands, Call.operands]))
  obtain ⟨es, clock, hb, hkeys, hvals, hstm, hst⟩ := hh.at_ i _ hi
  have hkeys' : es.map (·.key) = l.map (fun p => κ p.1) := by rw [hkeys]; simp [mkeys]
  have hvals' : RTs M (l.map (·.2)) (es.map (·.val)) := by simpa [mkeys, Function.comp_def] using hvals
  rcases hκ.find w k l es hkeys' with ⟨f1, f2, _⟩ | ⟨j, e', t, f1, f2, f3, f4, _⟩
  · obtain ⟨inf, zv, g1, _, _, g2, g3, g4, g5⟩ := hL.info hte
    have hzv : zv = z0 := by
      rw [ha] at g5
      rw [hz] at g3
      cases zv <;> simp_all [Value.cells]
    have hzr : (zeroValue eT).run P w = .ok z0 w := by simp [zeroValue, typeInfo, g1, g2, hzv]
    refine ⟨z0, ?_, by rw [f2]; simp only [Option.getD_none, RA, RT]⟩
    simp [execOp, Instr.lookup, h1.1, h2, run_underlying hu, MapKept.run_getObj_map hb, hκ.check, f1, hzr]
  · obtain ⟨u, hu1, hu2⟩ := hvals'.get (j := j) (t := t) (by rw [List.getElem?_map, f3]; rfl)
    rw [List.getElem?_map, f2] at hu1
    obtain rfl : e'.val = u := by simpa using hu1
    refine ⟨e'.val, ?_, by rw [f4]; simpa only [Option.getD_some, RA] using hu2⟩
    simp [execOp, Instr.lookup, h1.1, h2, run_underlying hu, MapKept.run_getObj_map hb, hκ.check, f1]
theorem lo_lookup_ok_r (hκ : KeyR P kT κ) (hL : TabOk P L) (hu : P.underlying xT = some (.map kT eT)) (hte : L.look eT = some te) (hz : te.zero = [z0]) (ha : te.agg = false) (hx : ρ x = .own i (.map (some b))) (hi : hp[i]? = some (.mpx b (mkeys κ l) o)) (hy : ∀ M u, RA M (ρ y) u → u = κ k)
    (h : K (.c (.tup [(mget k l).getD (.lit z0), .lit (.bool (mget k l).isSome)])) hp) : LO P F ⟨d, .lookup xT x y true, ty, pos, aft, g⟩ ρ hp K := by
  refine LO.same (fun M e w he hh => ?_) h
  have h1 := he x (by first | (simp [Op.operands]; done) | simp [Op.operands, Call.operands])
  rw [hx] at h1
  simp only [RA] at h1
  have h2 := hy M _ (he y (by first | (simp [Op.operands]; done) | simp [Op.operands, Call.operands]))
  obtain ⟨es, clock, hb, hkeys, hvals, hstm, hst⟩ := hh.at_ i _ hi
  have hkeys' : es.map (·.key) = l.map (fun p => κ p.1) := by rw [hkeys]; simp [mkeys]
  have hvals' : RTs M (l.map (·.2)) (es.map (·.val)) := by simpa [mkeys, Function.comp_def] using hvals
  rcases hκ.find w k l es hkeys' with ⟨f1, f2, _⟩ | ⟨j, e', t, f1, f2, f3, f4, _⟩
  · obtain ⟨inf, zv, g1, _, _, g2, g3, g4, g5⟩ := hL.info hte
    have hzv : zv = z0 := by
      rw [ha] at g5
      rw [hz] at g3
      cases zv <;> simp_all [Value.cells]
    have hzr : (zeroValue eT).run P w = .ok z0 w := by simp [zeroValue, typeInfo, g1, g2, hzv]
    refine ⟨.tuple #[z0, .bool false], ?_, by rw [f2]; simp only [Option.getD_none, Option.isSome_none, RA, RT, RTs]; exact ⟨[z0, .bool false], rfl, _, _, rfl, rfl, _, _, rfl, rfl, rfl⟩⟩
    simp [execOp, Instr.lookup, h1.1, h2, run_underlying hu, MapKept.run_getObj_map hb, hκ.check, f1, hzr]
  · obtain ⟨u, hu1, hu2⟩ := hvals'.get (j := j) (t := t) (by rw [List.getElem?_map, f3]; rfl)
    rw [List.getElem?_map, f2] at hu1
    obtain rfl : e'.val = u := by simpa using hu1
    refine ⟨.tuple #[e'.val, .bool true], ?_, by rw [f4]; simp only [Option.getD_some, Option.isSome_some, RA, RT, RTs]; exact ⟨[e'.val, .bool true], rfl, _, _, rfl, hu2, _, _, rfl, rfl, rfl⟩⟩
    simp [execOp, Instr.lookup, h1.1, h2, run_underlying hu, MapKept.run_getObj_map hb, hκ.check, f1]
theorem lo_mapUpdate_r (hκ : KeyR P kT κ) {t : T} (hu : P.underlying xT = some (.map kT eT)) (hx : ρ x = .own i (.map (some b))) (hi : hp[i]? = some (.mpx b (mkeys κ l) o)) (hy : ∀ M u, RA M (ρ y) u → u = κ k) (hz : ∀ M u, RA M (ρ z) u → RT M t u)
    (ho : o = none ∨ (mget k l).isSome = true) (h : K (.c (.lit undef)) (hp.set i (.mpx b (mkeys κ (mput k t l)) o))) : LO P F ⟨d, .mapUpdate xT x y z, ty, pos, aft, g⟩ ρ hp K := by
  refine ⟨fun M e w he hh => ?_⟩
  have h1 := he x (by first | (simp [Op.operands]; done) | simp [Op.operands, Call.operands])
  rw [hx] at h1
  simp only [RA] at h1
  have h2 := hy M _ (he y (by first | (simp [Op.operands]; done) | simp [Op.operands, Call.operands]))
  have h3 := hz M _ (he z (by first | (simp [Op.operands]; done) | simp [Op.operands, Call.operands]))
  obtain ⟨es, clock, hb, hkeys, hvals, hstm, hst⟩ := hh.at_ i _ hi
  have hkeys' : es.map (·.key) = l.map (fun p => κ p.1) := by rw [hkeys]; simp [mkeys]
  have hvals' : RTs M (l.map (·.2)) (es.map (·.val)) := by simpa [mkeys, Function.comp_def] using hvals
  have hlt : b < w.heap.size := (Array.getElem?_eq_some_iff.1 hb).1
  have hil : i < hp.length := (List.getElem?_eq_some_iff.1 hi).1
  obtain ⟨es', clock', hrun, hke, hva, hsm⟩ : ∃ (es' : List MapEntry) (clock' : Nat), (execOp e ⟨d, .mapUpdate xT x y z, ty, pos, aft, g⟩).run P w = .ok .skip { w with heap := w.heap.setIfInBounds b (.map es'.toArray clock') } ∧ es'.map (·.key) = (mkeys κ (mput k t l)).map (·.1) ∧ RTs M ((mkeys κ (mput k t l)).map (·.2)) (es'.map (·.val)) ∧ Stm es' clock' ∧ ∀ s ∈ o, s = (es'.map (·.born), clock') := by
    rcases hκ.find w k l es hkeys' with ⟨f1, f2, f3, _⟩ | ⟨j, e', t', f1, f2, f3, f4, f5, _⟩
    · refine ⟨es ++ [⟨κ k, e z, clock⟩], clock + 1, ?_, ?_, ?_, ⟨?_, ?_⟩, ?_⟩
      · simp [execOp, Instr.mapUpdate, h1.1, h2, run_underlying hu, MapKept.run_getObj_map hb, hκ.check, f1, MapKept.run_setObj_map _ hb]
      · rw [f3]; simp [mkeys, hkeys']
      · rw [f3]
        have : RTs M (l.map (·.2) ++ [t]) (es.map (·.val) ++ [e z]) := hvals'.app (by simp only [RTs]; exact ⟨_, _, rfl, h3, rfl⟩)
        simpa [mkeys, Function.comp_def] using this
      · rw [List.map_append, List.nodup_append]
        refine ⟨hstm.1, by simp, fun a ha b hb => ?_⟩
        obtain ⟨x, hx, rfl⟩ := List.mem_map.1 ha
        have := hstm.2 x hx
        simp only [List.map_cons, List.map_nil, List.mem_singleton] at hb
        omega
      · intro x hx
        rcases List.mem_append.1 hx with hx | hx
        · have := hstm.2 x hx; omega
        · rw [List.mem_singleton.1 hx]; simp only; omega
      · rcases ho with rfl | ho
        · intro s hs; cases hs
        · rw [f2] at ho; cases ho
    · have hek : e'.key = κ k := by
        have := congrArg (fun l => l[j]?) hkeys'
        simp only [List.getElem?_map, f2, f3, Option.map_some, Option.some.injEq] at this
        exact this
      have hjl : j < es.length := (List.getElem?_eq_some_iff.1 f2).1
      have hbo : (es.set j ⟨κ k, e z, e'.born⟩).map (·.born) = es.map (·.born) := by
        obtain ⟨hj1, hj2⟩ := List.getElem?_eq_some_iff.1 f2
        rw [List.map_set, show e'.born = (es.map (·.born))[j]'(by simpa using hj1) by rw [List.getElem_map, hj2]]
        exact List.set_getElem_self _
      refine ⟨es.set j ⟨κ k, e z, e'.born⟩, clock, ?_, ?_, ?_, ⟨by rw [hbo]; exact hstm.1, ?_⟩, by rw [hbo]; exact hst⟩
      · have hm := set_modify es j (fun q => { q with key := κ k, val := e z }) f2
        have hge : es[j]? = some e' := f2
        simp [execOp, Instr.mapUpdate, h1.1, h2, run_underlying hu, MapKept.run_getObj_map hb, hκ.check, f1, hge, hek, hκ.stays, MapKept.run_setObj_map _ hb, hm]
      · rw [f5]
        simp only [mkeys, List.map_set, List.map_map]
        rw [hkeys']
        rfl
      · rw [f5]
        have := RTs.set j hvals' h3
        simpa [mkeys, Function.comp_def, List.map_set] using this
      · intro x hx
        have hx2 : x.born ∈ es.map (·.born) := by rw [← hbo]; exact List.mem_map.2 ⟨x, hx, rfl⟩
        obtain ⟨y, hy, hyx⟩ := List.mem_map.1 hx2
        have := hstm.2 y hy
        omega
  rw [hrun]
  refine ⟨M, _, _, h, Ext.refl _ _, ?_, by simp only [RA, RT]⟩
  refine hh.step i rfl rfl rfl (by simp) (fun c hc hne => ?_) (Ext.refl _ _) (fun p v h1 h2 => by rw [h2] at h1; cases h1) (fun j hj => by rw [List.getElem?_set_ne (Ne.symm hj)]) (fun x' hx' => ?_)
  · have : c ≠ b := fun e => hne _ hi (by rw [e]; rfl)
    simp [Array.getElem?_setIfInBounds, Ne.symm this]
  · rw [List.getElem?_set_self hil] at hx'
    obtain rfl : Blk.mpx b (mkeys κ (mput k t l)) o = x' := by injection hx'
    exact ⟨⟨es', clock', by simp [Array.getElem?_setIfInBounds, hlt], hke, hva, hsm⟩, fun b' hb' => .inl ⟨_, hi, hb'⟩⟩
theorem lo_lookup_aggn_r (hκ : KeyR P kT κ) (hL : TabOk P L) (hu : P.underlying xT = some (.map kT eT)) (hte : L.look eT = some te) (ha : te.agg = true) (hx : ρ x = .own i (.map (some b))) (hi : hp[i]? = some (.mpx b (mkeys κ l) o)) (hy : ∀ M u, RA M (ρ y) u → u = κ k)
    (h : K (.c ((mget k l).getD (.agg (te.zero.map fun v => T.lit v)))) hp) : LO P F ⟨d, .lookup xT x y false, ty, pos, aft, g⟩ ρ hp K := by
  refine LO.same (fun M e w he hh => ?_) h
  have h1 := he x (by first | (simp [Op.operands]; done) | simp [Op.operands, Call.operands])
  rw [hx] at h1
  simp only [RA] at h1
  have h2 := hy M _ (he y (by first | (simp [Op.operands]; done) | simp [Op.operands, Call.operands]))
  obtain ⟨es, clock, hb, hkeys, hvals, -, -⟩ := hh.at_ i _ hi
  have hkeys' : es.map (·.key) = l.map (fun p => κ p.1) := by rw [hkeys]; simp [mkeys]
  have hvals' : RTs M (l.map (·.2)) (es.map (·.val)) := by simpa [mkeys, Function.comp_def] using hvals
  rcases hκ.find w k l es hkeys' with ⟨f1, f2, _⟩ | ⟨j, e', t, f1, f2, f3, f4, _⟩
  · obtain ⟨inf, zv, g1, _, _, g2, g3, g4, g5⟩ := hL.info hte
    rw [ha] at g5
    obtain ⟨a, rfl⟩ : ∃ a, zv = .agg a := by cases zv <;> simp_all
    have hza : a.toList = te.zero := g3
    have hzr : (zeroValue eT).run P w = .ok (.agg a) w := by simp [zeroValue, typeInfo, g1, g2]
    refine ⟨.agg a, ?_, by rw [f2]; simp only [Option.getD_none, RA, RT]; exact ⟨te.zero, by rw [← hza], lits_rts M te.zero⟩⟩
    simp [execOp, Instr.lookup, h1.1, h2, run_underlying hu, MapKept.run_getObj_map hb, hκ.check, f1, hzr]
  · obtain ⟨u, hu1, hu2⟩ := hvals'.get (j := j) (t := t) (by rw [List.getElem?_map, f3]; rfl)
    rw [List.getElem?_map, f2] at hu1
    obtain rfl : e'.val = u := by simpa using hu1
    refine ⟨e'.val, ?_, by rw [f4]; simpa only [Option.getD_some, RA] using hu2⟩
    simp [execOp, Instr.lookup, h1.1, h2, run_underlying hu, MapKept.run_getObj_map hb, hκ.check, f1]
theorem lo_mapDel_r {t tk : TypeId} (hκ : KeyR P kT κ) (hu : P.underlying t = some (.map kT eT)) (hx : ρ x = .own i (.map (some b))) (hi : hp[i]? = some (.mp b (mkeys κ l))) (hy : ∀ M u, RA M (ρ y) u → u = κ k)
    (h : K (.c (.tup [])) (hp.set i (.mp b (mkeys κ (mdel k l))))) : LO P F ⟨d, .call { callee := .builtin .delete, args := #[x, y], argTypes := #[t, tk] }, ty, pos, aft, g⟩ ρ hp K := by
  refine ⟨fun M e w he hh => ?_⟩
  have h1 := he x (by first | (simp [Op.operands]; done) | simp [Op.operands, Call.operands])
  rw [hx] at h1
  simp only [RA] at h1
  have h2 := hy M _ (he y (by first | (simp [Op.operands]; done) | simp [Op.operands, Call.operands]))
  obtain ⟨es, clock, hb, hkeys, hvals, hstm, hst⟩ := hh.at_ i _ hi
  have hkeys' : es.map (·.key) = l.map (fun p => κ p.1) := by rw [hkeys]; simp [mkeys]
  have hvals' : RTs M (l.map (·.2)) (es.map (·.val)) := by simpa [mkeys, Function.comp_def] using hvals
  have hlt : b < w.heap.size := (Array.getElem?_eq_some_iff.1 hb).1
  have hil : i < hp.length := (List.getElem?_eq_some_iff.1 hi).1
  obtain ⟨es', hrun, hke, hva, hsm⟩ : ∃ es' : List MapEntry, (execOp e ⟨d, .call { callee := .builtin .delete, args := #[x, y], argTypes := #[t, tk] }, ty, pos, aft, g⟩).run P w = .ok (.value (.tuple #[])) { w with heap := w.heap.setIfInBounds b (.map es'.toArray clock) } ∧ es'.map (·.key) = (mkeys κ (mdel k l)).map (·.1) ∧ RTs M ((mkeys κ (mdel k l)).map (·.2)) (es'.map (·.val)) ∧ Stm es' clock := by
    rcases hκ.find w k l es hkeys' with ⟨f1, _, _, f2⟩ | ⟨j, e', t', f1, f2, _, _, _, f3⟩
    · refine ⟨es, ?_, ?_, ?_, hstm⟩
      · simp [execOp, resolve, invoke, builtin, Builtin.delete_, h1.1, h2, run_underlying hu, MapKept.run_getObj_map hb, hκ.check, f1, MapKept.run_setObj_map _ hb]
      · rw [f2, hkeys]
      · rw [f2]; exact hvals
    · refine ⟨es.eraseIdx j, ?_, ?_, ?_, ⟨?_, ?_⟩⟩
      · simp [execOp, resolve, invoke, builtin, Builtin.delete_, h1.1, h2, run_underlying hu, MapKept.run_getObj_map hb, hκ.check, f1, MapKept.run_setObj_map _ hb]
      · rw [f3]
        simp only [mkeys, List.map_map]
        rw [map_erase, map_erase, hkeys']
        rfl
      · rw [f3]
        simp only [mkeys, List.map_map]
        rw [map_erase, map_erase]
        exact RTs.erase j (by simpa [Function.comp_def] using hvals')
      · rw [map_erase]
        exact hstm.1.sublist (List.eraseIdx_sublist _ _)
      · intro q hq
        exact hstm.2 q (List.eraseIdx_sublist _ _ |>.subset hq)
  rw [hrun]
  refine ⟨M, _, _, h, Ext.refl _ _, ?_, by simp only [RA, RT, RTs]; exact ⟨[], rfl, rfl⟩⟩
  refine hh.step i rfl rfl rfl (by simp) (fun c hc hne => ?_) (Ext.refl _ _) (fun p v h1 h2 => by rw [h2] at h1; cases h1) (fun j hj => by rw [List.getElem?_set_ne (Ne.symm hj)]) (fun x' hx' => ?_)
  · have : c ≠ b := fun e => hne _ hi (by rw [e]; rfl)
    simp [Array.getElem?_setIfInBounds, Ne.symm this]
  · rw [List.getElem?_set_self hil] at hx'
    obtain rfl : Blk.mp b (mkeys κ (mdel k l)) = x' := by injection hx'
    exact ⟨⟨es', clock, by simp [Array.getElem?_setIfInBounds, hlt], hke, hva, hsm, fun s hs => by cases hs⟩, fun b' hb' => .inl ⟨_, hi, hb'⟩⟩
end
theorem kv_c {α : Type} {M : Mm} {f : α → Value} {p : α × α} {u : Value} (h : RA M (.c (.agg [.lit (f p.1), .lit (f p.2)])) u) : u = pairV f p := by
  simp only [RA, RT, RTs] at h
  obtain ⟨xs, rfl, _, _, rfl, rfl, _, _, rfl, rfl, rfl⟩ := h
  rfl
theorem kv_a {α : Type} {M : Mm} {f : α → Value} {p : α × α} {u : Value} (h : RA M (.agg [.c (.lit (f p.1)), .c (.lit (f p.2))]) u) : u = pairV f p := by
  simp only [RA, RAs, RT] at h
  obtain ⟨xs, rfl, _, _, rfl, rfl, _, _, rfl, rfl, rfl⟩ := h
  rfl
theorem kv_l {M : Mm} {v u : Value} (h : RA M (.c (.lit v)) u) : u = v := by simpa only [RA, RT] using h
section
variable {P : Program} {F : Frm} {L : Tab} {d : Option Tmp} {ty : TypeId} {pos : String} {aft : Array Edge} {g : Option (Nat × Bool)} {ρ : Operand → AV} {hp : List Blk} {K : AV → List Blk → Prop} {te : TI} {x y : Operand} {i b : Nat} {o : Option (List Nat × Nat)} {xT kT : TypeId} {α : Type} [DecidableEq α] {κ : α → Value} {l l' : List (α × T)}
/-- looked up: a cell -/
theorem zLkr (eT : TypeId) (hκ : KeyR P kT κ) (k : α) {t : T} {z0 : Value} (ht : (mget k l).getD (.lit z0) = t) (h : K (.c t) hp) (hu : isMap P xT = some (kT, eT) := by kernel_rfl) (hL : TabOk P L := by exact tok) (hte : L.look eT = some te := by exact rfl) (hz : te.zero = [z0] := by exact rfl) (ha : te.agg = false := by exact rfl) (hx : ρ x = .own i (.map (some b)) := by exact rfl) (hi : hp[i]? = some (.mpx b (mkeys κ l) o) := by exact rfl) (hy : ∀ M u, RA M (ρ y) u → u = κ k := by intro M u h; first | exact kv_a h | exact kv_c h | exact kv_l h) :
    LO P F ⟨d, .lookup xT x y false, ty, pos, aft, g⟩ ρ hp K := lo_lookup_r hκ hL (isMap_eq hu) hte hz ha hx hi hy (by rw [ht]; exact h)
theorem zLkro (eT : TypeId) (hκ : KeyR P kT κ) (k : α) {t : T} {z0 : Value} {c : Bool} (ht : (mget k l).getD (.lit z0) = t) (hc : (mget k l).isSome = c) (h : K (.c (.tup [t, .lit (.bool c)])) hp) (hu : isMap P xT = some (kT, eT) := by kernel_rfl) (hL : TabOk P L := by exact tok) (hte : L.look eT = some te := by exact rfl) (hz : te.zero = [z0] := by exact rfl) (ha : te.agg = false := by exact rfl) (hx : ρ x = .own i (.map (some b)) := by exact rfl) (hi : hp[i]? = some (.mpx b (mkeys κ l) o) := by exact rfl) (hy : ∀ M u, RA M (ρ y) u → u = κ k := by intro M u h; first | exact kv_a h | exact kv_c h | exact kv_l h) :
    LO P F ⟨d, .lookup xT x y true, ty, pos, aft, g⟩ ρ hp K := lo_lookup_ok_r hκ hL (isMap_eq hu) hte hz ha hx hi hy (by rw [ht, hc]; exact h)
/-- looked up: a structure -/
theorem zLkrn (eT : TypeId) (hκ : KeyR P kT κ) (k : α) {t : T} {zs : List T} (ht : (mget k l).getD (.agg zs) = t) (h : K (.c t) hp) (hu : isMap P xT = some (kT, eT) := by kernel_rfl) (hL : TabOk P L := by exact tok) (hte : L.look eT = some te := by exact rfl) (hz : te.zero.map (fun v => T.lit v) = zs := by exact rfl) (ha : te.agg = true := by exact rfl) (hx : ρ x = .own i (.map (some b)) := by exact rfl) (hi : hp[i]? = some (.mpx b (mkeys κ l) o) := by exact rfl) (hy : ∀ M u, RA M (ρ y) u → u = κ k := by intro M u h; first | exact kv_a h | exact kv_c h | exact kv_l h) :
    LO P F ⟨d, .lookup xT x y false, ty, pos, aft, g⟩ ρ hp K := lo_lookup_aggn_r hκ hL (isMap_eq hu) hte ha hx hi hy (by rw [hz, ht]; exact h)
theorem zUprS (eT : TypeId) (hκ : KeyR P kT κ) (k : α) {z : Operand} {t : T} (hl : mput k t l = l') (h : K (.c (.lit undef)) (hp.set i (.mp b (mkeys κ l')))) (hu : isMap P xT = some (kT, eT) := by kernel_rfl) (hx : ρ x = .own i (.map (some b)) := by exact rfl) (hi : hp[i]? = some (.mp b (mkeys κ l)) := by exact rfl) (hy : ∀ M u, RA M (ρ y) u → u = κ k := by intro M u h; first | exact kv_a h | exact kv_c h | exact kv_l h) (hz : Re (ρ z) (.c t) := by first | exact re_refl | exact re_ol | exact re_pl) :
    LO P F ⟨d, .mapUpdate xT x y z, ty, pos, aft, g⟩ ρ hp K := lo_mapUpdate_r hκ (isMap_eq hu) hx hi hy (fun M u h => by have := hz M u h; simpa only [RA] using this) (.inl rfl) (by rw [hl]; exact h)
theorem zDelrS (eT : TypeId) (hκ : KeyR P kT κ) (k : α) {tk : TypeId} (hl : mdel k l = l') (h : K (.c (.tup [])) (hp.set i (.mp b (mkeys κ l')))) (hu : isMap P xT = some (kT, eT) := by kernel_rfl) (hx : ρ x = .own i (.map (some b)) := by exact rfl) (hi : hp[i]? = some (.mp b (mkeys κ l)) := by exact rfl) (hy : ∀ M u, RA M (ρ y) u → u = κ k := by intro M u h; first | exact kv_a h | exact kv_c h | exact kv_l h) :
    LO P F ⟨d, .call { callee := .builtin .delete, args := #[x, y], argTypes := #[xT, tk] }, ty, pos, aft, g⟩ ρ hp K := lo_mapDel_r hκ (isMap_eq hu) hx hi hy (by rw [hl]; exact h)
end
end Go.Proofs.Ytdogdjcjmhogmaa
namespace Go.Proofs.Ytdogdjcjmhogmaa
open Go.RowKit
section
variable {P : Program} {F : Frm} {L : Tab} {d : Option Tmp} {ty : TypeId} {pos : String} {aft : Array Edge} {g : Option (Nat × Bool)} {ρ : Operand → AV} {hp : List Blk} {K : AV → List Blk → Prop}
variable {α : Type} [DecidableEq α] {κ : α → Value} {xT kT eT : TypeId} {x y z : Operand} {i b : Nat} {l : List (α × T)} {k : α} {te : TI}
theorem mget_snoc {k : α} {t : T} : ∀ {l : List (α × T)}, mget k l = none → mget k (l ++ [(k, t)]) = some t
  | [], _ => by simp [mget]
  | (k', t') :: l, h => by
    unfold mget at h
    show mget k ((k', t') :: (l ++ [(k, t)])) = _
    unfold mget
    by_cases hk : k = k'
    · rw [if_pos hk] at h; cases h
    · rw [if_neg hk] at h ⊢
      exact mget_snoc h
/-- the value that a new entry has -/
def ZeroT (te : TI) (zt : T) : Prop := (te.agg = true ∧ zt = .agg (te.zero.map fun v => T.lit v)) ∨ (te.agg = false ∧ ∃ z0, te.zero = [z0] ∧ zt = .lit z0)
theorem lo_mapEntry_r {zt : T} (hκ : KeyR P kT κ) (hL : TabOk P L) (hu : P.underlying xT = some (.map kT eT)) (hte : L.look eT = some te) (ha : ZeroT te zt) (hx : ρ x = .own i (.map (some b))) (hi : hp[i]? = some (.mp b (mkeys κ l))) (hy : ∀ M u, RA M (ρ y) u → u = κ k)
    (h : ∀ (l1 : List (α × T)) (j : Nat) (st : List Nat) (c : Nat) (v : T), l1[j]? = some (k, v) → j < st.length → (∀ t, l1.set j (k, t) = mput k t l) → mget k l1 = some ((mget k l).getD zt) → K (.tup [.junk, .c (.lit (.int .i64 ((st.getD j 0 : Nat) : Int)))]) (hp.set i (.mpx b (mkeys κ l1) (some (st, c))))) :
    LO P F ⟨d, .mapEntry xT x y, ty, pos, aft, g⟩ ρ hp K := by
  refine ⟨fun M e w he hh => ?_⟩
  have h1 := he x (by first | (simp [Op.operands]; done) | simp [Op.operands, Call.operands])
  rw [hx] at h1
  simp only [RA] at h1
  have h2 := hy M _ (he y (by first | (simp [Op.operands]; done) | simp [Op.operands, Call.operands]))
  obtain ⟨es, clock, hb, hkeys, hvals, hstm, hst⟩ := hh.at_ i _ hi
  have hkeys' : es.map (·.key) = l.map (fun p => κ p.1) := by rw [hkeys]; simp [mkeys]
  have hvals' : RTs M (l.map (·.2)) (es.map (·.val)) := by simpa [mkeys, Function.comp_def] using hvals
  have hlt : b < w.heap.size := (Array.getElem?_eq_some_iff.1 hb).1
  have hil : i < hp.length := (List.getElem?_eq_some_iff.1 hi).1
  obtain ⟨es', clock', l1, j, v, u0, hrun, hke, hva, hsm, hj, hjl, hput, hgt⟩ : ∃ (es' : List MapEntry) (clock' : Nat) (l1 : List (α × T)) (j : Nat) (v : T) (u0 : Value), (execOp e ⟨d, .mapEntry xT x y, ty, pos, aft, g⟩).run P w = .ok (.value (.tuple #[u0, .int .i64 (((es'.map (·.born)).getD j 0 : Nat) : Int)])) { w with heap := w.heap.setIfInBounds b (.map es'.toArray clock') } ∧ es'.map (·.key) = (mkeys κ l1).map (·.1) ∧ RTs M ((mkeys κ l1).map (·.2)) (es'.map (·.val)) ∧ Stm es' clock' ∧ l1[j]? = some (k, v) ∧ j < es'.length ∧ (∀ t, l1.set j (k, t) = mput k t l) ∧ mget k l1 = some ((mget k l).getD zt) := by
    rcases hκ.find w k l es hkeys' with ⟨f1, f2, f3, _⟩ | ⟨j, e', t', f1, f2, f3, f4, f5, _⟩
    · obtain ⟨inf, zv, g1, _, _, g2, g3, g4, g5⟩ := hL.info hte
      have hzt : RT M zt zv := by
        rcases ha with ⟨ha, rfl⟩ | ⟨ha, z0, hz, rfl⟩
        · rw [ha] at g5
          obtain ⟨a, rfl⟩ : ∃ a, zv = .agg a := by cases zv <;> simp_all
          have hza : a.toList = te.zero := g3
          simp only [RT]
          exact ⟨te.zero, by rw [← hza], lits_rts M te.zero⟩
        · have hzv : zv = z0 := by
            rw [ha] at g5
            rw [hz] at g3
            cases zv <;> simp_all [Value.cells]
          simp only [RT]
          exact hzv
      have hzr : (zeroValue eT).run P w = .ok zv w := by simp [zeroValue, typeInfo, g1, g2]
      have hlen : es.length = l.length := by
        have := congrArg List.length hkeys'
        simpa using this
      refine ⟨es ++ [⟨κ k, zv, clock⟩], clock + 1, l ++ [(k, zt)], es.length, zt, zv, ?_, ?_, ?_, ⟨?_, ?_⟩, ?_, ?_, fun t => ?_, by rw [mget_snoc f2, f2]; rfl⟩
      · have hg : (List.map (·.born) (es ++ [(⟨κ k, zv, clock⟩ : MapEntry)])).getD es.length 0 = clock := by simp [List.getD]
        rw [hg]
        simp [execOp, Instr.mapEntry, h1.1, h2, run_underlying hu, MapKept.run_getObj_map hb, hκ.check, f1, hzr, MapKept.run_setObj_map _ hb, goInt]
      · simp [mkeys, hkeys']
      · have : RTs M (l.map (·.2) ++ [zt]) (es.map (·.val) ++ [zv]) := hvals'.app (by simp only [RTs]; exact ⟨_, _, rfl, hzt, rfl⟩)
        simpa [mkeys, Function.comp_def] using this
      · rw [List.map_append, List.nodup_append]
        refine ⟨hstm.1, by simp, fun a ha b hb => ?_⟩
        obtain ⟨x, hx, rfl⟩ := List.mem_map.1 ha
        have := hstm.2 x hx
        simp only [List.map_cons, List.map_nil, List.mem_singleton] at hb
        omega
      · intro x hx
        rcases List.mem_append.1 hx with hx | hx
        · have := hstm.2 x hx; omega
        · rw [List.mem_singleton.1 hx]; simp only; omega
      · rw [hlen]; simp
      · simp
      · rw [f3, hlen]; simp
    · have hek : e'.key = κ k := by
        have := congrArg (fun l => l[j]?) hkeys'
        simp only [List.getElem?_map, f2, f3, Option.map_some, Option.some.injEq] at this
        exact this
      have hjl : j < es.length := (List.getElem?_eq_some_iff.1 f2).1
      refine ⟨es, clock, l, j, t', e'.val, ?_, ?_, ?_, hstm, f3, hjl, fun t => (f5 t).symm, by rw [f4]; rfl⟩
      · have hm : es.modify j (fun q => { q with key := κ k }) = es := by
          rw [set_modify es j _ f2]
          obtain ⟨hj1, hj2⟩ := List.getElem?_eq_some_iff.1 f2
          rw [show ({ e' with key := κ k } : MapEntry) = es[j] by rw [hj2, ← hek]]
          exact List.set_getElem_self _
        have hg : (List.map (·.born) es).getD j 0 = e'.born := by simp [List.getD, f2]
        rw [hg]
        simp [execOp, Instr.mapEntry, h1.1, h2, run_underlying hu, MapKept.run_getObj_map hb, hκ.check, f1, f2, hek, hκ.stays, MapKept.run_setObj_map _ hb, hm, goInt]
      · rw [hkeys]
      · exact hvals
  rw [hrun]
  refine ⟨M, _, _, h l1 j (es'.map (·.born)) clock' v hj (by simpa using hjl) hput hgt, Ext.refl _ _, ?_, by simp only [RA, RAs, RT]; exact ⟨_, rfl, _, _, rfl, trivial, _, _, rfl, rfl, rfl⟩⟩
  refine hh.step i rfl rfl rfl (by simp) (fun c hc hne => ?_) (Ext.refl _ _) (fun p v h1 h2 => by rw [h2] at h1; cases h1) (fun j hj => by rw [List.getElem?_set_ne (Ne.symm hj)]) (fun x' hx' => ?_)
  · have : c ≠ b := fun e => hne _ hi (by rw [e]; rfl)
    simp [Array.getElem?_setIfInBounds, Ne.symm this]
  · rw [List.getElem?_set_self hil] at hx'
    obtain rfl : Blk.mpx b (mkeys κ l1) (some (es'.map (·.born), clock')) = x' := by injection hx'
    exact ⟨⟨es', clock', by simp [Array.getElem?_setIfInBounds, hlt], hke, hva, hsm, fun s hs => by cases hs; rfl⟩, fun b' hb' => .inl ⟨_, hi, hb'⟩⟩
omit [DecidableEq α] in
theorem lo_entryStore_r {l1 : List (α × T)} {j c : Nat} {st : List Nat} {v t : T} (hx : ρ x = .own i (.map (some b))) (hi : hp[i]? = some (.mpx b (mkeys κ l1) (some (st, c)))) (hy : ρ y = .c (.lit (.int .i64 ((st.getD j 0 : Nat) : Int)))) (hj : l1[j]? = some (k, v)) (hjs : j < st.length) (hz : ∀ M u, RA M (ρ z) u → RT M t u)
    (h : K (.c (.lit undef)) (hp.set i (.mp b (mkeys κ (l1.set j (k, t)))))) : LO P F ⟨d, .entryStore xT x y z, ty, pos, aft, g⟩ ρ hp K := by
  refine ⟨fun M e w he hh => ?_⟩
  have h1 := he x (by first | (simp [Op.operands]; done) | simp [Op.operands, Call.operands])
  rw [hx] at h1
  simp only [RA] at h1
  have h2 := he y (by first | (simp [Op.operands]; done) | simp [Op.operands, Call.operands])
  rw [hy] at h2
  simp only [RA, RT] at h2
  have h3 := hz M _ (he z (by first | (simp [Op.operands]; done) | simp [Op.operands, Call.operands]))
  obtain ⟨es, clock, hb, hkeys, hvals, hstm, hst⟩ := hh.at_ i _ hi
  have hst' := hst _ rfl
  injection hst' with hs1 hs2
  have hkeys' : es.map (·.key) = l1.map (fun p => κ p.1) := by rw [hkeys]; simp [mkeys]
  have hvals' : RTs M (l1.map (·.2)) (es.map (·.val)) := by simpa [mkeys, Function.comp_def] using hvals
  have hlt : b < w.heap.size := (Array.getElem?_eq_some_iff.1 hb).1
  have hil : i < hp.length := (List.getElem?_eq_some_iff.1 hi).1
  have hjl : j < es.length := by rw [hs1] at hjs; simpa using hjs
  obtain ⟨e', he'⟩ : ∃ e', es[j]? = some e' := ⟨_, List.getElem?_eq_getElem hjl⟩
  have hg : st.getD j 0 = e'.born := by rw [hs1]; simp [List.getD, he']
  rw [hg] at h2
  have hidx := Go.WideElems.findIdx_born hstm.1 he'
  have hm := set_modify es j (fun q => { q with val := e z }) he'
  have hrun : (execOp e ⟨d, .entryStore xT x y z, ty, pos, aft, g⟩).run P w = .ok .skip { w with heap := w.heap.setIfInBounds b (.map (es.set j { e' with val := e z }).toArray clock) } := by
    simp [execOp, Instr.entryStore, h1.1, h2, MapKept.run_getObj_map hb, asInt, asIntOf, hidx, MapKept.run_setObj_map _ hb, hm]
  rw [hrun]
  have hbo : (es.set j { e' with val := e z }).map (·.born) = es.map (·.born) := by
    obtain ⟨hj1, hj2⟩ := List.getElem?_eq_some_iff.1 he'
    rw [List.map_set, show e'.born = (es.map (·.born))[j]'(by simpa using hj1) by rw [List.getElem_map, hj2]]
    exact List.set_getElem_self _
  refine ⟨M, _, _, h, Ext.refl _ _, ?_, by simp only [RA, RT]⟩
  refine hh.step i rfl rfl rfl (by simp) (fun c hc hne => ?_) (Ext.refl _ _) (fun p v h1 h2 => by rw [h2] at h1; cases h1) (fun j hj => by rw [List.getElem?_set_ne (Ne.symm hj)]) (fun x' hx' => ?_)
  · have : c ≠ b := fun e => hne _ hi (by rw [e]; rfl)
    simp [Array.getElem?_setIfInBounds, Ne.symm this]
  · rw [List.getElem?_set_self hil] at hx'
    obtain rfl : Blk.mp b (mkeys κ (l1.set j (k, t))) = x' := by injection hx'
    refine ⟨⟨es.set j { e' with val := e z }, clock, by simp [Array.getElem?_setIfInBounds, hlt], ?_, ?_, ⟨by rw [hbo]; exact hstm.1, fun q hq => ?_⟩, fun s hs => by cases hs⟩, fun b' hb' => .inl ⟨_, hi, hb'⟩⟩
    · have hek : e'.key = κ k := by
        have := congrArg (fun l => l[j]?) hkeys'
        simp only [List.getElem?_map, he', hj, Option.map_some, Option.some.injEq] at this
        exact this
      simp only [mkeys, List.map_set, List.map_map]
      rw [hkeys', hek]
      rfl
    · have := RTs.set j hvals' h3
      simpa [mkeys, Function.comp_def, List.map_set] using this
    · have hx2 : q.born ∈ es.map (·.born) := by rw [← hbo]; exact List.mem_map.2 ⟨q, hq, rfl⟩
      obtain ⟨y, hy, hyx⟩ := List.mem_map.1 hx2
      have := hstm.2 y hy
      omega
/-- an entry is made, or found: its stamp -/
theorem zMe (eT : TypeId) (zt : T) (hκ : KeyR P kT κ) (k : α) (h : ∀ (l1 : List (α × T)) (j : Nat) (st : List Nat) (c : Nat) (v : T), l1[j]? = some (k, v) → j < st.length → (∀ t, l1.set j (k, t) = mput k t l) → mget k l1 = some ((mget k l).getD zt) → K (.tup [.junk, .c (.lit (.int .i64 ((st.getD j 0 : Nat) : Int)))]) (hp.set i (.mpx b (mkeys κ l1) (some (st, c)))))
    (hu : isMap P xT = some (kT, eT) := by kernel_rfl) (hL : TabOk P L := by exact tok) (hte : L.look eT = some te := by exact rfl) (ha : ZeroT te zt := by first | exact .inl ⟨rfl, rfl⟩ | exact .inr ⟨rfl, _, rfl, rfl⟩) (hx : ρ x = .own i (.map (some b)) := by exact rfl) (hi : hp[i]? = some (.mp b (mkeys κ l)) := by exact rfl) (hy : ∀ M u, RA M (ρ y) u → u = κ k := by intro M u h; first | exact kv_a h | exact kv_c h | exact kv_l h) :
    LO P F ⟨d, .mapEntry xT x y, ty, pos, aft, g⟩ ρ hp K := lo_mapEntry_r hκ hL (isMap_eq hu) hte ha hx hi hy h
omit [DecidableEq α] in
/-- the entry's value is stored: the map told anew -/
theorem zEst {l1 l' : List (α × T)} {j c : Nat} {st : List Nat} {v : T} (t : T) (hj : l1[j]? = some (k, v)) (hjs : j < st.length) (hput : l1.set j (k, t) = l') (h : K (.c (.lit undef)) (hp.set i (.mp b (mkeys κ l')))) (hx : ρ x = .own i (.map (some b)) := by exact rfl) (hi : hp[i]? = some (.mpx b (mkeys κ l1) (some (st, c))) := by exact rfl) (hy : ρ y = .c (.lit (.int .i64 ((st.getD j 0 : Nat) : Int))) := by exact rfl) (hz : Rzs [] [ρ z] [t] := by repeat (first | exact rzs_nil | apply rzs_cons | exact rz_c | exact rz_nil rfl | apply rz_agg | exact rz_own rfl | apply rz_fn | exact rz_ptr rfl | apply rz_tup)) :
    LO P F ⟨d, .entryStore xT x y z, ty, pos, aft, g⟩ ρ hp K := lo_entryStore_r (k := k) hx hi hy hj hjs (fun M u h => by have := re_cls hz M u h; simpa only [RA] using this) (by rw [hput]; exact h)
end
end Go.Proofs.Ytdogdjcjmhogmaa
namespace Go.Proofs.Ytdogdjcjmhogmaa
open Go.RowKit
/-- what goes between nodes: a letter (0), an actor (1), where an actor is (2) -/
structure El where
  kind : Int
  who : Int
  src : Int
  seq : Int
  n : Int
  node : Int
  turn : Int
structure Zt where
  at_ : List Int
  bel : Int → Int → Int × Int
  nxt : Int → Int → Int
  sto : Int → Int → List (Int × Int)
  seqs : List ((Int × Int) × Int)
  ways : List ((Int × Int) × List El)
  wait : List (List El)
  got : List (List (Int × Int))
def upd2 {α : Type} (f : Int → Int → α) (a b : Int) (v : α) : Int → Int → α := fun i w => if i = a ∧ w = b then v else f i w
theorem upd2_at {α : Type} {f : Int → Int → α} {a b : Int} {v : α} : upd2 f a b v a b = v := by simp [upd2]
def wayG (k : Int × Int) (W : List ((Int × Int) × List El)) : List El := (gget k W).getD []
def pushL (k : Int × Int) (x : El) (W : List ((Int × Int) × List El)) : List ((Int × Int) × List El) := gput k (wayG k W ++ [x]) W
/-- what an actor has of what is stored for it -/
def drain : Nat → Int → List (Int × Int) → Int × List (Int × Int) × List Int
  | 0, k, s => (k, s, [])
  | f + 1, k, s => match gget k s with
    | none => (k, s, [])
    | some v => let r := drain f (k + 1) (gdel k s); (r.1, r.2.1, v :: r.2.2)
def recvZ (x : El) (Z : Zt) : Zt :=
  if x.seq < Z.nxt x.src x.who then Z else
  let s := gput x.seq x.n (Z.sto x.src x.who)
  let r := drain s.length (Z.nxt x.src x.who) s
  { Z with nxt := upd2 Z.nxt x.src x.who r.1, sto := upd2 Z.sto x.src x.who r.2.1, got := Z.got.set x.who.toNat (Z.got.getD x.who.toNat [] ++ r.2.2.map (x.src, ·)) }
def noteE (x : El) (b : Int × Int) : El := ⟨2, x.who, 0, 0, 0, b.1, b.2⟩
def procZ (i : Int) (x : El) (Z : Zt) : Zt :=
  if Z.at_.getD x.who.toNat 0 = i then recvZ x Z
  else if (Z.bel i x.who).1 = i then { Z with wait := Z.wait.set i.toNat (Z.wait.getD i.toNat [] ++ [x]) }
  else
    let W := if x.src = i then Z.ways else pushL (i, x.src) (noteE x (Z.bel i x.who)) Z.ways
    { Z with ways := pushL (i, (Z.bel i x.who).1) x W }
def turned (i : Int) (x : El) (Z : Zt) : Bool := decide ((Z.bel i x.who).2 < x.turn)
def comeZ (i : Int) (x : El) (Z : Zt) : Zt :=
  if x.kind = 0 then procZ i x Z
  else
    let Z1 := if x.kind = 1 then { Z with at_ := Z.at_.set x.who.toNat i } else Z
    let Z2 := if turned i x Z then { Z1 with bel := upd2 Z1.bel i x.who (x.node, x.turn) } else Z1
    if x.kind = 1 ∨ turned i x Z = true then (Z2.wait.getD i.toNat []).foldl (fun Z y => procZ i y Z) { Z2 with wait := Z2.wait.set i.toNat [] } else Z2
structure Dd where
  kind : Int
  src : Int
  dst : Int
  who : Int
  n : Int
def isN (nd : Int) (i : Int) : Prop := 1 ≤ i ∧ i ≤ nd
def isW (nA : Nat) (w : Int) : Prop := 0 ≤ w ∧ w < nA
instance (nd i : Int) : Decidable (isN nd i) := inferInstanceAs (Decidable (_ ∧ _))
instance (nA : Nat) (w : Int) : Decidable (isW nA w) := inferInstanceAs (Decidable (_ ∧ _))
def seqG (k : Int × Int) (S : List ((Int × Int) × Int)) : Int := (gget k S).getD 0
def doZ (nd : Int) (d : Dd) (Z : Zt) : Zt :=
  if d.kind = 1 then
    if isN nd d.src ∧ isW Z.at_.length d.who then
      procZ d.src ⟨0, d.who, d.src, seqG (d.src, d.who) Z.seqs, d.n, 0, 0⟩ { Z with seqs := gput (d.src, d.who) (seqG (d.src, d.who) Z.seqs + 1) Z.seqs }
    else Z
  else if d.kind = 2 then
    if isN nd d.dst ∧ isW Z.at_.length d.who ∧ Z.at_.getD d.who.toNat 0 ≠ 0 ∧ Z.at_.getD d.who.toNat 0 ≠ d.dst then
      let i := Z.at_.getD d.who.toNat 0
      let b := (d.dst, (Z.bel i d.who).2 + 1)
      { Z with bel := upd2 Z.bel i d.who b, at_ := Z.at_.set d.who.toNat 0, ways := pushL (i, d.dst) ⟨1, d.who, 0, 0, 0, b.1, b.2⟩ Z.ways }
    else Z
  else if d.kind = 3 then
    match wayG (d.src, d.dst) Z.ways with
    | [] => Z
    | x :: l => comeZ d.dst x { Z with ways := gput (d.src, d.dst) l Z.ways }
  else Z
def startZ (nd : Nat) (l : List Int) : Zt := ⟨l, fun _ w => (l.getD w.toNat 0, 0), fun _ _ => 0, fun _ _ => [], [], [], List.replicate (nd + 1) [], List.replicate l.length []⟩
def sumL {α : Type} (l : List (List α)) : Nat := (l.map List.length).sum
def sumW (W : List ((Int × Int) × List El)) : Nat := (W.map fun p => p.2.length).sum
structure ElOk (nA nd : Nat) (t : Nat) (x : El) : Prop where
  kind : 0 ≤ x.kind ∧ x.kind ≤ 2
  who : isW nA x.who
  src : x.kind = 0 → isN nd x.src
  node : x.kind ≠ 0 → isN nd x.node
  turn : 0 ≤ x.turn ∧ x.turn ≤ t
structure ZOk (nA nd : Nat) (t cw cy cs cg : Nat) (Z : Zt) : Prop where
  alen : Z.at_.length = nA
  at_ : ∀ a ∈ Z.at_, 0 ≤ a ∧ a ≤ nd
  glen : Z.got.length = nA
  wlen : Z.wait.length = nd + 1
  bel : ∀ i w, isN nd i → isW nA w → isN nd (Z.bel i w).1 ∧ 0 ≤ (Z.bel i w).2 ∧ (Z.bel i w).2 ≤ t
  seqs : ∀ p ∈ Z.seqs, 0 ≤ p.2 ∧ p.2 ≤ t
  ways : ∀ p ∈ Z.ways, isN nd p.1.1 ∧ isN nd p.1.2 ∧ ∀ x ∈ p.2, ElOk nA nd t x
  wait : ∀ l ∈ Z.wait, ∀ x ∈ l, ElOk nA nd t x ∧ x.kind = 0
  waitn : sumL Z.wait ≤ cw
  waysn : sumW Z.ways ≤ cy
  sto : ∀ i w, (Z.sto i w).length ≤ cs
  got : ∀ l ∈ Z.got, l.length ≤ cg
  nxt : ∀ i w, 0 ≤ Z.nxt i w ∧ Z.nxt i w ≤ cg
theorem ElOk.mono {nA nd t t' : Nat} {x : El} (h : ElOk nA nd t x) (ht : t ≤ t') : ElOk nA nd t' x := ⟨h.kind, h.who, h.src, h.node, h.turn.1, by have := h.turn.2; omega⟩
theorem ZOk.mono {nA nd t cw cy cs cg t' cw' cy' cs' cg' : Nat} {Z : Zt} (h : ZOk nA nd t cw cy cs cg Z) (h1 : t ≤ t') (h2 : cw ≤ cw') (h3 : cy ≤ cy') (h4 : cs ≤ cs') (h5 : cg ≤ cg') : ZOk nA nd t' cw' cy' cs' cg' Z :=
  ⟨h.alen, h.at_, h.glen, h.wlen, fun i w hi hw => let ⟨a, b, c⟩ := h.bel i w hi hw; ⟨a, b, by omega⟩, fun p hp => let ⟨a, b⟩ := h.seqs p hp; ⟨a, by omega⟩, fun p hp => let ⟨a, b, c⟩ := h.ways p hp; ⟨a, b, fun x hx => (c x hx).mono h1⟩, fun l hl x hx => let ⟨a, b⟩ := h.wait l hl x hx; ⟨a.mono h1, b⟩, by have := h.waitn; omega, by have := h.waysn; omega, fun i w => by have := h.sto i w; omega, fun l hl => by have := h.got l hl; omega, fun i w => by have := h.nxt i w; omega⟩
theorem sum_set {l : List Nat} {i : Nat} {v : Nat} (h : i < l.length) : (l.set i v).sum + l.getD i 0 = l.sum + v := by
  induction l generalizing i with
  | nil => simp at h
  | cons a l ih =>
    cases i with
    | zero => simp; omega
    | succ i =>
      have := ih (i := i) (by simpa using h)
      simp only [List.set_cons_succ, List.sum_cons, List.getD_cons_succ] at this ⊢
      omega
theorem sumL_set {α : Type} {l : List (List α)} {i : Nat} {v : List α} (h : i < l.length) : sumL (l.set i v) + (l.getD i []).length = sumL l + v.length := by
  unfold sumL
  have := sum_set (l := l.map List.length) (i := i) (v := v.length) (by simpa using h)
  rw [List.map_set]
  have e : (l.map List.length).getD i 0 = (l.getD i []).length := by simp [List.getD, List.getElem?_map]; cases l[i]? <;> rfl
  rw [e] at this
  exact this
theorem sumW_put (k : Int × Int) (v : List El) : ∀ W : List ((Int × Int) × List El), sumW (gput k v W) + (wayG k W).length = sumW W + v.length
  | [] => by simp [gput, sumW, wayG, gget]
  | (k', l) :: W => by
    have ih := sumW_put k v W
    unfold wayG gput gget
    unfold wayG sumW at ih
    by_cases h : k = k'
    · simp [h, sumW]; omega
    · simp only [h, if_false, sumW, List.map_cons, List.sum_cons] at ih ⊢; omega
theorem gput_all {α β : Type} [DecidableEq α] {k : α} {b : β} {p : α × β} : ∀ {l : List (α × β)}, p ∈ gput k b l → p = (k, b) ∨ p ∈ l
  | [], h => by simp only [gput, List.mem_singleton] at h; exact .inl h
  | (k', b') :: l, h => by
    unfold gput at h
    split at h
    · rcases List.mem_cons.1 h with h | h
      · exact .inl h
      · exact .inr (List.mem_cons_of_mem _ h)
    · rcases List.mem_cons.1 h with h | h
      · exact .inr (h ▸ List.mem_cons_self)
      · rcases gput_all h with h | h
        · exact .inl h
        · exact .inr (List.mem_cons_of_mem _ h)
theorem gget_in {α β : Type} [DecidableEq α] {k : α} {b : β} : ∀ {l : List (α × β)}, gget k l = some b → (k, b) ∈ l
  | [], h => by simp [gget] at h
  | (k', b') :: l, h => by
    unfold gget at h
    split at h
    · rename_i hk; cases h; subst hk; exact List.mem_cons_self
    · exact List.mem_cons_of_mem _ (gget_in h)
theorem wayG_in {k : Int × Int} {x : El} {W : List ((Int × Int) × List El)} (h : x ∈ wayG k W) : ∃ l, (k, l) ∈ W ∧ x ∈ l := by
  unfold wayG at h
  cases hg : gget k W with
  | none => rw [hg] at h; cases h
  | some l => rw [hg] at h; exact ⟨l, gget_in hg, h⟩
theorem gdel_len {α β : Type} [DecidableEq α] {k : α} : ∀ {l : List (α × β)}, (gget k l).isSome = true → (gdel k l).length + 1 = l.length
  | [], h => by simp [gget] at h
  | (k', b') :: l, h => by
    unfold gget at h
    unfold gdel
    by_cases hk : k = k'
    · simp [hk]
    · simp only [hk, if_false, List.length_cons] at h ⊢
      have := gdel_len h
      omega
theorem drain_len : ∀ (f : Nat) (k : Int) (s : List (Int × Int)), (drain f k s).2.1.length + (drain f k s).2.2.length = s.length ∧ (drain f k s).1 = k + ((drain f k s).2.2.length : Nat)
  | 0, k, s => by simp [drain]
  | f + 1, k, s => by
    unfold drain
    cases hg : gget k s with
    | none => simp
    | some v =>
      have h1 := gdel_len (k := k) (l := s) (by rw [hg]; rfl)
      obtain ⟨h2, h3⟩ := drain_len f (k + 1) (gdel k s)
      simp only [List.length_cons]
      refine ⟨by omega, ?_⟩
      rw [h3]; push_cast; omega
theorem mem_set_or {α : Type} {l : List α} {i : Nat} {v a : α} (h : a ∈ l.set i v) : a ∈ l ∨ a = v := List.mem_or_eq_of_mem_set h
end Go.Proofs.Ytdogdjcjmhogmaa
namespace Go.Proofs.Ytdogdjcjmhogmaa
open Go.RowKit
section
variable {nA nd t cw cy cs cg : Nat} {Z : Zt} {i : Int} {x : El}
theorem isW_lt {w : Int} (h : isW nA w) : w.toNat < nA ∧ ((w.toNat : Nat) : Int) = w := by unfold isW at h; omega
theorem isN_lt (h : isN nd i) : i.toNat < nd + 1 ∧ ((i.toNat : Nat) : Int) = i := by unfold isN at h; omega
theorem getD_mem {α : Type} {l : List α} {j : Nat} {d : α} (h : j < l.length) : l.getD j d ∈ l := by
  rw [List.getD_eq_getElem?_getD, List.getElem?_eq_getElem h]
  exact List.getElem_mem h
theorem at_ok (h : ZOk nA nd t cw cy cs cg Z) {w : Int} (hw : isW nA w) : 0 ≤ Z.at_.getD w.toNat 0 ∧ Z.at_.getD w.toNat 0 ≤ nd := h.at_ _ (getD_mem (by have := (isW_lt hw).1; rw [h.alen]; exact this))
theorem sto_upd {f : Int → Int → List (Int × Int)} {a b : Int} {v : List (Int × Int)} (h : ∀ i w, (f i w).length ≤ cs) (hv : v.length ≤ cs) : ∀ i w, (upd2 f a b v i w).length ≤ cs := by
  intro i w
  unfold upd2
  split
  · exact hv
  · exact h i w
theorem recv_ok (h : ZOk nA nd t cw cy cs cg Z) (hx : ElOk nA nd t x) : ZOk nA nd t cw cy (cs + 1) (cg + cs + 1) (recvZ x Z) := by
  unfold recvZ
  split
  · exact h.mono (Nat.le_refl _) (Nat.le_refl _) (Nat.le_refl _) (by omega) (by omega)
  · have h1 := gput_len (k := x.seq) (b := x.n) (l := Z.sto x.src x.who)
    have h2 := h.sto x.src x.who
    obtain ⟨h3, h4⟩ := drain_len (gput x.seq x.n (Z.sto x.src x.who)).length (Z.nxt x.src x.who) (gput x.seq x.n (Z.sto x.src x.who))
    have hw := isW_lt hx.who
    have hg := h.got _ (getD_mem (d := []) (show x.who.toNat < Z.got.length by rw [h.glen]; exact hw.1))
    have hn := h.nxt x.src x.who
    dsimp only
    generalize drain _ _ _ = r at h3 h4 ⊢
    refine ⟨h.alen, h.at_, by rw [List.length_set]; exact h.glen, h.wlen, h.bel, h.seqs, h.ways, h.wait, h.waitn, h.waysn, ?_, ?_, ?_⟩
    · exact sto_upd (fun i w => by have := h.sto i w; omega) (by omega)
    · intro l hl
      rcases mem_set_or hl with hl | rfl
      · have := h.got l hl; omega
      · rw [List.length_append, List.length_map]; omega
    · intro i w
      dsimp only
      unfold upd2
      split
      · omega
      · have := h.nxt i w; omega
theorem push_ok {W : List ((Int × Int) × List El)} {k : Int × Int} (hW : ∀ p ∈ W, isN nd p.1.1 ∧ isN nd p.1.2 ∧ ∀ x ∈ p.2, ElOk nA nd t x) (h1 : isN nd k.1) (h2 : isN nd k.2) (hx : ElOk nA nd t x) : (∀ p ∈ pushL k x W, isN nd p.1.1 ∧ isN nd p.1.2 ∧ ∀ x ∈ p.2, ElOk nA nd t x) ∧ sumW (pushL k x W) = sumW W + 1 := by
  refine ⟨fun p hp => ?_, ?_⟩
  · rcases gput_all hp with rfl | hp
    · refine ⟨h1, h2, fun y hy => ?_⟩
      rcases List.mem_append.1 hy with hy | hy
      · obtain ⟨l, hl, hyl⟩ := wayG_in hy
        exact (hW _ hl).2.2 y hyl
      · rw [List.mem_singleton.1 hy]; exact hx
    · exact hW p hp
  · have := sumW_put k (wayG k W ++ [x]) W
    unfold pushL
    rw [List.length_append] at this
    simp only [List.length_singleton] at this
    omega
theorem note_ok (h : ZOk nA nd t cw cy cs cg Z) (hi : isN nd i) (hx : ElOk nA nd t x) : ElOk nA nd t (noteE x (Z.bel i x.who)) := by
  obtain ⟨a, b, c⟩ := h.bel i x.who hi hx.who
  exact ⟨by simp [noteE], hx.who, fun h => by simp [noteE] at h, fun _ => a, ⟨b, c⟩⟩
theorem proc_ok (h : ZOk nA nd t cw cy cs cg Z) (hi : isN nd i) (hx : ElOk nA nd t x) (hk : x.kind = 0) : ZOk nA nd t (cw + 1) (cy + 2) (cs + 1) (cg + cs + 1) (procZ i x Z) := by
  unfold procZ
  split
  · exact (recv_ok h hx).mono (Nat.le_refl _) (by omega) (by omega) (Nat.le_refl _) (Nat.le_refl _)
  split
  · have hl := (isN_lt hi).1
    have hs := sumL_set (l := Z.wait) (i := i.toNat) (v := Z.wait.getD i.toNat [] ++ [x]) (by rw [h.wlen]; exact hl)
    rw [List.length_append] at hs
    simp only [List.length_singleton] at hs
    have hw := h.waitn
    refine ⟨h.alen, h.at_, h.glen, by rw [List.length_set]; exact h.wlen, h.bel, h.seqs, h.ways, ?_, by dsimp only; omega, by have := h.waysn; dsimp only; omega, fun i w => by have := h.sto i w; dsimp only; omega, fun l hl => by have := h.got l hl; omega, fun i w => by have := h.nxt i w; dsimp only; omega⟩
    intro l hl' y hy
    rcases mem_set_or hl' with hl' | rfl
    · exact h.wait l hl' y hy
    · rcases List.mem_append.1 hy with hy | hy
      · exact h.wait _ (getD_mem (by rw [h.wlen]; exact hl)) y hy
      · rw [List.mem_singleton.1 hy]; exact ⟨hx, hk⟩
  · obtain ⟨hb1, hb2, hb3⟩ := h.bel i x.who hi hx.who
    have hy := h.waysn
    dsimp only
    by_cases hs : x.src = i
    · rw [if_pos hs]
      obtain ⟨p1, p2⟩ := push_ok (k := (i, (Z.bel i x.who).1)) h.ways hi hb1 hx
      refine ⟨h.alen, h.at_, h.glen, h.wlen, h.bel, h.seqs, p1, h.wait, by have := h.waitn; dsimp only; omega, by dsimp only; omega, fun i w => by have := h.sto i w; dsimp only; omega, fun l hl => by have := h.got l hl; omega, fun i w => by have := h.nxt i w; dsimp only; omega⟩
    · rw [if_neg hs]
      obtain ⟨q1, q2⟩ := push_ok (k := (i, x.src)) h.ways hi (hx.src hk) (note_ok h hi hx)
      obtain ⟨p1, p2⟩ := push_ok (k := (i, (Z.bel i x.who).1)) q1 hi hb1 hx
      refine ⟨h.alen, h.at_, h.glen, h.wlen, h.bel, h.seqs, p1, h.wait, by have := h.waitn; dsimp only; omega, by dsimp only; omega, fun i w => by have := h.sto i w; dsimp only; omega, fun l hl => by have := h.got l hl; omega, fun i w => by have := h.nxt i w; dsimp only; omega⟩
theorem fold_ok (hi : isN nd i) : ∀ (l : List El) (cw cy cs cg : Nat) (Z : Zt), (∀ x ∈ l, ElOk nA nd t x ∧ x.kind = 0) → ZOk nA nd t cw cy cs cg Z → ZOk nA nd t (cw + l.length) (cy + 2 * l.length) (cs + l.length) (cg + l.length * (cs + l.length + 1)) (l.foldl (fun Z y => procZ i y Z) Z)
  | [], cw, cy, cs, cg, Z, _, h => by simpa using h
  | x :: l, cw, cy, cs, cg, Z, hl, h => by
    obtain ⟨hx, hk⟩ := hl x List.mem_cons_self
    have h1 := fold_ok hi l _ _ _ _ _ (fun y hy => hl y (List.mem_cons_of_mem _ hy)) (proc_ok h hi hx hk)
    rw [List.foldl_cons, List.length_cons]
    refine h1.mono (Nat.le_refl _) (by omega) (by omega) (by omega) ?_
    have e : (l.length + 1) * (cs + (l.length + 1) + 1) = l.length * (cs + 1 + l.length + 1) + (cs + l.length + 2) := by
      rw [Nat.add_mul, Nat.one_mul, show cs + (l.length + 1) + 1 = cs + 1 + l.length + 1 by omega]
      omega
    rw [e]
    omega
theorem getD_le_sumL {α : Type} : ∀ {l : List (List α)} {j : Nat}, (l.getD j []).length ≤ sumL l
  | [], _ => by simp [sumL]
  | a :: l, 0 => by simp [sumL]
  | a :: l, j + 1 => by
    have := getD_le_sumL (l := l) (j := j)
    simp only [List.getD_cons_succ, sumL, List.map_cons, List.sum_cons] at this ⊢
    omega
theorem come_ok (h : ZOk nA nd t cw cy cs cg Z) (hi : isN nd i) (hx : ElOk nA nd t x) : ZOk nA nd t (cw + 1) (cy + 2 * (cw + 1)) (cs + cw + 1) (cg + (cw + 1) * (cs + cw + 2)) (comeZ i x Z) := by
  unfold comeZ
  have e0 : (cw + 1) * (cs + cw + 2) = cw * (cs + cw + 2) + (cs + cw + 2) := by rw [Nat.add_mul, Nat.one_mul]
  split
  · rename_i hk
    refine (proc_ok h hi hx hk).mono (Nat.le_refl _) (Nat.le_refl _) (by omega) (by omega) ?_
    rw [e0]
    have := Nat.zero_le (cw * (cs + cw + 2))
    omega
  · rename_i hk
    have hb := hx.node hk
    have h1 : ZOk nA nd t cw cy cs cg (if x.kind = 1 then { Z with at_ := Z.at_.set x.who.toNat i } else Z) := by
      split
      · refine ⟨by rw [List.length_set]; exact h.alen, fun a ha => ?_, h.glen, h.wlen, h.bel, h.seqs, h.ways, h.wait, h.waitn, h.waysn, h.sto, h.got, h.nxt⟩
        rcases mem_set_or ha with ha | rfl
        · exact h.at_ a ha
        · unfold isN at hi; omega
      · exact h
    dsimp only
    generalize hZ1 : (if x.kind = 1 then { Z with at_ := Z.at_.set x.who.toNat i } else Z) = Z1 at h1 ⊢
    have h2 : ZOk nA nd t cw cy cs cg (if turned i x Z = true then { Z1 with bel := upd2 Z1.bel i x.who (x.node, x.turn) } else Z1) := by
      split
      · refine ⟨h1.alen, h1.at_, h1.glen, h1.wlen, fun j w hj hw => ?_, h1.seqs, h1.ways, h1.wait, h1.waitn, h1.waysn, h1.sto, h1.got, h1.nxt⟩
        dsimp only
        unfold upd2
        split
        · exact ⟨hb, hx.turn.1, hx.turn.2⟩
        · exact h1.bel j w hj hw
      · exact h1
    generalize (if turned i x Z = true then { Z1 with bel := upd2 Z1.bel i x.who (x.node, x.turn) } else Z1) = Z2 at h2 ⊢
    split
    · have hl := (isN_lt hi).1
      have hs := sumL_set (l := Z2.wait) (i := i.toNat) (v := []) (by rw [h2.wlen]; exact hl)
      have hw := h2.waitn
      have hle := getD_le_sumL (l := Z2.wait) (j := i.toNat)
      have hall := h2.wait _ (getD_mem (d := []) (show i.toNat < Z2.wait.length by rw [h2.wlen]; exact hl))
      generalize Z2.wait.getD i.toNat [] = l at hs hle hall ⊢
      have h3 : ZOk nA nd t (cw - l.length) cy cs cg { Z2 with wait := Z2.wait.set i.toNat [] } := by
        refine ⟨h2.alen, h2.at_, h2.glen, by rw [List.length_set]; exact h2.wlen, h2.bel, h2.seqs, h2.ways, fun l' hl' y hy => ?_, by simp only [List.length_nil] at hs; dsimp only; omega, h2.waysn, h2.sto, h2.got, h2.nxt⟩
        rcases mem_set_or hl' with hl' | rfl
        · exact h2.wait l' hl' y hy
        · cases hy
      have hlc : l.length ≤ cw := by omega
      refine (fold_ok hi l _ _ _ _ _ hall h3).mono (Nat.le_refl _) (by omega) (by omega) (by omega) ?_
      have : l.length * (cs + l.length + 1) ≤ (cw + 1) * (cs + cw + 2) := Nat.mul_le_mul (by omega) (by omega)
      omega
    · exact h2.mono (Nat.le_refl _) (by omega) (by omega) (by omega) (by omega)
theorem do_ok (h : ZOk nA nd t cw cy cs cg Z) (d : Dd) : ZOk nA nd (t + 1) (cw + 1) (cy + 2 * (cw + 1)) (cs + cw + 1) (cg + (cw + 1) * (cs + cw + 2)) (doZ nd d Z) := by
  have hm : ZOk nA nd (t + 1) (cw + 1) (cy + 2 * (cw + 1)) (cs + cw + 1) (cg + (cw + 1) * (cs + cw + 2)) Z := h.mono (by omega) (by omega) (by omega) (by omega) (by omega)
  have e0 : (cw + 1) * (cs + cw + 2) = cw * (cs + cw + 2) + (cs + cw + 2) := by rw [Nat.add_mul, Nat.one_mul]
  unfold doZ
  split
  · split
    · rename_i hh
      obtain ⟨hs, hw⟩ := hh
      rw [h.alen] at hw
      have hq : 0 ≤ seqG (d.src, d.who) Z.seqs ∧ seqG (d.src, d.who) Z.seqs ≤ t := by
        unfold seqG
        cases hg : gget (d.src, d.who) Z.seqs with
        | none => simp
        | some q => exact h.seqs _ (gget_in hg)
      have h1 : ZOk nA nd (t + 1) cw cy cs cg { Z with seqs := gput (d.src, d.who) (seqG (d.src, d.who) Z.seqs + 1) Z.seqs } := by
        have h' := h.mono (t' := t + 1) (by omega) (Nat.le_refl _) (Nat.le_refl _) (Nat.le_refl _) (Nat.le_refl _)
        refine ⟨h'.alen, h'.at_, h'.glen, h'.wlen, h'.bel, fun p hp => ?_, h'.ways, h'.wait, h'.waitn, h'.waysn, h'.sto, h'.got, h'.nxt⟩
        rcases gput_all hp with rfl | hp
        · dsimp only; omega
        · exact h'.seqs p hp
      refine (proc_ok h1 hs ⟨by simp, hw, fun _ => hs, fun h => absurd rfl h, by simp; omega⟩ rfl).mono (Nat.le_refl _) (Nat.le_refl _) (by omega) (by omega) ?_
      rw [e0]
      have := Nat.zero_le (cw * (cs + cw + 2))
      omega
    · exact hm
  split
  · split
    · rename_i hh
      obtain ⟨hs, hw, h0, h1⟩ := hh
      rw [h.alen] at hw
      have ha := at_ok h hw
      have hi : isN nd (Z.at_.getD d.who.toNat 0) := by unfold isN; omega
      obtain ⟨b1, b2, b3⟩ := h.bel _ _ hi hw
      have h' := h.mono (t' := t + 1) (by omega) (Nat.le_refl _) (Nat.le_refl _) (Nat.le_refl _) (Nat.le_refl _)
      obtain ⟨p1, p2⟩ := push_ok (k := (Z.at_.getD d.who.toNat 0, d.dst)) (x := ⟨1, d.who, 0, 0, 0, d.dst, (Z.bel (Z.at_.getD d.who.toNat 0) d.who).2 + 1⟩) h'.ways hi hs ⟨by simp, hw, fun h => by simp at h, fun _ => hs, by dsimp only; omega⟩
      refine ⟨by dsimp only; rw [List.length_set]; exact h.alen, fun a ha' => ?_, h.glen, h.wlen, fun j w hj hw' => ?_, h'.seqs, p1, h'.wait, by have := h.waitn; dsimp only; omega, by have := h.waysn; dsimp only; omega, fun i w => by have := h.sto i w; dsimp only; omega, fun l hl => by have := h.got l hl; omega, fun i w => by have := h.nxt i w; dsimp only; omega⟩
      · rcases mem_set_or ha' with ha' | rfl
        · exact h.at_ a ha'
        · omega
      · dsimp only
        unfold upd2
        split
        · refine ⟨hs, ?_, ?_⟩ <;> dsimp only <;> omega
        · exact h'.bel j w hj hw'
    · exact hm
  split
  · split
    · exact hm
    · rename_i y l hy
      have hx : y ∈ wayG (d.src, d.dst) Z.ways := by rw [hy]; exact List.mem_cons_self
      have hall : ∀ z ∈ l, z ∈ wayG (d.src, d.dst) Z.ways := fun z hz => by rw [hy]; exact List.mem_cons_of_mem _ hz
      obtain ⟨l0, hl0, hx0⟩ := wayG_in hx
      have hp := h.ways _ hl0
      have hsum := sumW_put (d.src, d.dst) l Z.ways
      rw [hy, List.length_cons] at hsum
      have h1 : ZOk nA nd t cw cy cs cg { Z with ways := gput (d.src, d.dst) l Z.ways } := by
        refine ⟨h.alen, h.at_, h.glen, h.wlen, h.bel, h.seqs, fun p hp' => ?_, h.wait, h.waitn, by have := h.waysn; dsimp only; omega, h.sto, h.got, h.nxt⟩
        rcases gput_all hp' with rfl | hp'
        · refine ⟨hp.1, hp.2.1, fun z hz => ?_⟩
          obtain ⟨l1, hl1, hz1⟩ := wayG_in (hall z hz)
          exact (h.ways _ hl1).2.2 z hz1
        · exact h.ways p hp'
      exact (come_ok h1 hp.2.1 (hp.2.2 y hx0)).mono (by omega) (Nat.le_refl _) (Nat.le_refl _) (Nat.le_refl _) (Nat.le_refl _)
  · exact hm
theorem start_ok (l : List Int) (h : ∀ a ∈ l, 1 ≤ a ∧ a ≤ nd) : ZOk l.length nd 0 0 0 0 0 (startZ nd l) := by
  refine ⟨rfl, fun a ha => by have := h a ha; omega, by simp [startZ], by simp [startZ], fun i w _ hw => ?_, fun p hp => by simp [startZ] at hp, fun p hp => by simp [startZ] at hp, fun l' hl' x hx => ?_, ?_, by simp [startZ, sumW], fun i w => by simp [startZ], fun l' hl' => ?_, fun i w => by simp [startZ]⟩
  · have := h _ (getD_mem (d := 0) (isW_lt hw).1)
    exact ⟨this, by simp [startZ], by simp [startZ]⟩
  · obtain ⟨_, rfl⟩ := List.mem_replicate.1 hl'
    cases hx
  · simp [startZ, sumL]
  · obtain ⟨_, rfl⟩ := List.mem_replicate.1 hl'
    simp
/-- after k deeds -/
def SOk (nA nd k : Nat) (Z : Zt) : Prop := ZOk nA nd k k (802 * k) (401 * k) (65000000 * k) Z
theorem step_ok {k : Nat} (hk : k < 400) (h : SOk nA nd k Z) (d : Dd) : SOk nA nd (k + 1) (doZ nd d Z) := by
  have h1 := do_ok h d
  have hb : (k + 1) * (401 * k + k + 2) ≤ 401 * (401 * 400 + 400 + 2) := Nat.mul_le_mul (by omega) (by omega)
  exact h1.mono (Nat.le_refl _) (Nat.le_refl _) (by omega) (by omega) (by omega)
end
end Go.Proofs.Ytdogdjcjmhogmaa
namespace Go.Proofs.Ytdogdjcjmhogmaa
open Go.RowKit
def intTs (i : Int) : List T := [.lit (.int .i64 i)]
def intRow (l : List Int) : T := .row l.length 1 (l.flatMap intTs)
theorem int_at {l : List Int} {k : Nat} {i : Int} (h : l[k]? = some i) : (l.flatMap intTs)[k * 1]? = some (.lit (.int .i64 i)) := flat_get intTs 1 (fun _ => rfl) h (j := 0) (by omega)
end Go.Proofs.Ytdogdjcjmhogmaa
