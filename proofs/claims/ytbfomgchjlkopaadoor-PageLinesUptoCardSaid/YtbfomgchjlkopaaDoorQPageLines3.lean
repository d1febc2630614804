/-
  Texts of this proof, part 3: Ab7 Ab8 Ab9.
-/
import Derived.Test.YtbfomgchjlkopaaDoorQPageLines2
import Derived.IntWalk
import Derived.Laws.IdiomRangeMap
import Derived.MapKept
namespace Go.Proofs.YtbfomgchjlkopaaDoor
open Go.RowKit
theorem str_toList (s : ByteArray) : s.toList = s.data.toList := ByteArray.toList_eq s
theorem str_eq {a b : ByteArray} : (a.toList == b.toList) = decide (a = b) := by
  by_cases h : a = b
  · subst h; simp
  · have : ¬ a.toList = b.toList := fun e => h (ByteArray.ext (Array.toList_inj.1 (by rwa [str_toList, str_toList] at e)))
    simp [h, this]
section
variable {P : Program} {F : Frm} {L : Tab} {d : Option Tmp} {ty : TypeId} {pos : String} {aft : Array Edge} {g : Option (Nat × Bool)} {ρ : Operand → AV} {hp : List Blk} {K : AV → List Blk → Prop}
/-- an operation on two literals -/
theorem lo_bin {op : BinOp} {t t' : TypeId} {x y : Operand} {a b v : Value} (hx : ρ x = .c (.lit a)) (hy : ρ y = .c (.lit b)) (hg : ∀ w, (eqGuard op t x y a b).run P w = .ok () w) (hr : ∀ w, (binOp op t a b).run P w = .ok v w) (h : K (.c (.lit v)) hp) : LO P F ⟨d, .binOp op t x y t', ty, pos, aft, g⟩ ρ hp K := by
  refine LO.same (fun M e w he hh => ?_) h
  have h1 := he x (by first | (simp [Op.operands]; done) | simp [Op.operands, Call.operands])
  rw [hx] at h1
  simp only [RA, RT] at h1
  have h2 := he y (by first | (simp [Op.operands]; done) | simp [Op.operands, Call.operands])
  rw [hy] at h2
  simp only [RA, RT] at h2
  exact ⟨v, by simp [execOp, h1, h2, hg, hr], by simp only [RA, RT]⟩
theorem guard_int {op : BinOp} {t : TypeId} {x y : Operand} {k k' : IntKind} {a b : Int} (w : World) : (eqGuard op t x y (.int k a) (.int k' b)).run P w = .ok () w := by
  unfold eqGuard; simp
theorem guard_str {op : BinOp} {t : TypeId} {x y : Operand} {a b : ByteArray} (w : World) : (eqGuard op t x y (.string a) (.string b)).run P w = .ok () w := by
  unfold eqGuard; simp
variable {t t' : TypeId} {x y : Operand} {k : IntKind} {a b : Int}
theorem lo_lss (hx : ρ x = .c (.lit (.int k a))) (hy : ρ y = .c (.lit (.int k b))) (h : K (.c (.lit (.bool (decide (a < b))))) hp) : LO P F ⟨d, .binOp .lss t x y t', ty, pos, aft, g⟩ ρ hp K :=
  lo_bin hx hy guard_int (fun w => by simp [binOp, Op.intCmp]) h
theorem lo_leq (hx : ρ x = .c (.lit (.int k a))) (hy : ρ y = .c (.lit (.int k b))) (h : K (.c (.lit (.bool (decide (a ≤ b))))) hp) : LO P F ⟨d, .binOp .leq t x y t', ty, pos, aft, g⟩ ρ hp K :=
  lo_bin hx hy guard_int (fun w => by simp [binOp, Op.intCmp]) h
theorem lo_gtr (hx : ρ x = .c (.lit (.int k a))) (hy : ρ y = .c (.lit (.int k b))) (h : K (.c (.lit (.bool (decide (b < a))))) hp) : LO P F ⟨d, .binOp .gtr t x y t', ty, pos, aft, g⟩ ρ hp K :=
  lo_bin hx hy guard_int (fun w => by simp [binOp, Op.intCmp]) h
theorem lo_geq (hx : ρ x = .c (.lit (.int k a))) (hy : ρ y = .c (.lit (.int k b))) (h : K (.c (.lit (.bool (decide (b ≤ a))))) hp) : LO P F ⟨d, .binOp .geq t x y t', ty, pos, aft, g⟩ ρ hp K :=
  lo_bin hx hy guard_int (fun w => by simp [binOp, Op.intCmp]) h
theorem lo_eql (hx : ρ x = .c (.lit (.int k a))) (hy : ρ y = .c (.lit (.int k b))) (h : K (.c (.lit (.bool (decide (a = b))))) hp) : LO P F ⟨d, .binOp .eql t x y t', ty, pos, aft, g⟩ ρ hp K :=
  lo_bin hx hy guard_int (fun w => by simp [binOp, Op.intCmp]; rfl) h
theorem lo_neq (hx : ρ x = .c (.lit (.int k a))) (hy : ρ y = .c (.lit (.int k b))) (h : K (.c (.lit (.bool (!decide (a = b))))) hp) : LO P F ⟨d, .binOp .neq t x y t', ty, pos, aft, g⟩ ρ hp K :=
  lo_bin hx hy guard_int (fun w => by simp [binOp, Op.intCmp]; rfl) h
theorem lo_add (hx : ρ x = .c (.lit (.int k a))) (hy : ρ y = .c (.lit (.int k b))) {r : Int} (hr : k.wrap (a + b) = r) (h : K (.c (.lit (.int k r))) hp) : LO P F ⟨d, .binOp .add t x y t', ty, pos, aft, g⟩ ρ hp K :=
  lo_bin hx hy guard_int (fun w => by simp [binOp, Op.intArith, hr]) h
theorem lo_sub (hx : ρ x = .c (.lit (.int k a))) (hy : ρ y = .c (.lit (.int k b))) {r : Int} (hr : k.wrap (a - b) = r) (h : K (.c (.lit (.int k r))) hp) : LO P F ⟨d, .binOp .sub t x y t', ty, pos, aft, g⟩ ρ hp K :=
  lo_bin hx hy guard_int (fun w => by simp [binOp, Op.intArith, hr]) h
theorem lo_mul (hx : ρ x = .c (.lit (.int k a))) (hy : ρ y = .c (.lit (.int k b))) {r : Int} (hr : k.wrap (a * b) = r) (h : K (.c (.lit (.int k r))) hp) : LO P F ⟨d, .binOp .mul t x y t', ty, pos, aft, g⟩ ρ hp K :=
  lo_bin hx hy guard_int (fun w => by simp [binOp, Op.intArith, hr]) h
/-- the next number: no bound is passed -/
theorem lo_inc {n : Nat} (hx : ρ x = .c (.lit (.int .i64 n))) (hy : ρ y = .c (.lit (.int .i64 1))) (hb : n < 9223372036854775807) (h : K (.c (.lit (.int .i64 ((n + 1 : Nat) : Int)))) hp) : LO P F ⟨d, .binOp .add t x y t', ty, pos, aft, g⟩ ρ hp K :=
  lo_add hx hy (by rw [IntWalk.i64_in _ (by omega)]; omega) h
variable {s s' : ByteArray}
theorem lo_eqs (hx : ρ x = .c (.lit (.string s))) (hy : ρ y = .c (.lit (.string s'))) (h : K (.c (.lit (.bool (decide (s = s'))))) hp) : LO P F ⟨d, .binOp .eql t x y t', ty, pos, aft, g⟩ ρ hp K :=
  lo_bin hx hy guard_str (fun w => by simp only [binOp, Op.stringOp, str_eq, Sem.run_pure]) h
theorem lo_nes (hx : ρ x = .c (.lit (.string s))) (hy : ρ y = .c (.lit (.string s'))) (h : K (.c (.lit (.bool (!decide (s = s'))))) hp) : LO P F ⟨d, .binOp .neq t x y t', ty, pos, aft, g⟩ ρ hp K :=
  lo_bin hx hy guard_str (fun w => by simp only [binOp, Op.stringOp, str_eq, Sem.run_pure]) h
theorem lo_cat (hx : ρ x = .c (.lit (.string s))) (hy : ρ y = .c (.lit (.string s'))) (hb : s.size + s'.size ≤ 9223372036854775807) (h : K (.c (.lit (.string (s ++ s')))) hp) : LO P F ⟨d, .binOp .add t x y t', ty, pos, aft, g⟩ ρ hp K :=
  lo_bin hx hy guard_str (fun w => by
    have : ¬ ((s.size + s'.size : Nat) : Int) > IntKind.i64.max := by simp [IntKind.max, IntKind.signed, IntKind.bits]; omega
    simp only [binOp, Op.stringOp, if_neg this, Sem.run_pure]) h
def strLt (a b : ByteArray) : Bool := Op.bytesLess a.toList b.toList
theorem lo_lts (hx : ρ x = .c (.lit (.string s))) (hy : ρ y = .c (.lit (.string s'))) (h : K (.c (.lit (.bool (strLt s s')))) hp) : LO P F ⟨d, .binOp .lss t x y t', ty, pos, aft, g⟩ ρ hp K :=
  lo_bin hx hy guard_str (fun w => by simp only [binOp, Op.stringOp, strLt, Sem.run_pure]) h
theorem lo_gts (hx : ρ x = .c (.lit (.string s))) (hy : ρ y = .c (.lit (.string s'))) (h : K (.c (.lit (.bool (!(strLt s s' || decide (s = s')))))) hp) : LO P F ⟨d, .binOp .gtr t x y t', ty, pos, aft, g⟩ ρ hp K :=
  lo_bin hx hy guard_str (fun w => by simp only [binOp, Op.stringOp, strLt, str_eq, Sem.run_pure]) h
theorem lo_les (hx : ρ x = .c (.lit (.string s))) (hy : ρ y = .c (.lit (.string s'))) (h : K (.c (.lit (.bool (strLt s s' || decide (s = s'))))) hp) : LO P F ⟨d, .binOp .leq t x y t', ty, pos, aft, g⟩ ρ hp K :=
  lo_bin hx hy guard_str (fun w => by simp only [binOp, Op.stringOp, strLt, str_eq, Sem.run_pure]) h
theorem lo_ges (hx : ρ x = .c (.lit (.string s))) (hy : ρ y = .c (.lit (.string s'))) (h : K (.c (.lit (.bool (!strLt s s')))) hp) : LO P F ⟨d, .binOp .geq t x y t', ty, pos, aft, g⟩ ρ hp K :=
  lo_bin hx hy guard_str (fun w => by simp only [binOp, Op.stringOp, strLt, Sem.run_pure]) h
theorem lo_not {c : Bool} (hx : ρ x = .c (.lit (.bool c))) (h : K (.c (.lit (.bool !c))) hp) : LO P F ⟨d, .unOp .not t x, ty, pos, aft, g⟩ ρ hp K := by
  refine LO.same (fun M e w he hh => ?_) h
  have h1 := he x (by first | (simp [Op.operands]; done) | simp [Op.operands, Call.operands])
  rw [hx] at h1
  simp only [RA, RT] at h1
  exact ⟨_, by simp [execOp, h1, Op.unary]; rfl, by simp only [RA, RT]⟩
theorem lo_conv (hL : TabOk P L) {ti : TI} {u : TypeId} {k' : IntKind} (hx : ρ x = .c (.lit (.int k a))) (ht : L.look t = some ti) (hd : ti.d = .int k') {tu : TI} (hu : L.look u = some tu) {r : Int} (hr : k'.wrap a = r) (h : K (.c (.lit (.int k' r))) hp) : LO P F ⟨d, .convert u t x, ty, pos, aft, g⟩ ρ hp K := by
  refine LO.same (fun M e w he hh => ?_) h
  have h1 := he x (by first | (simp [Op.operands]; done) | simp [Op.operands, Call.operands])
  rw [hx] at h1
  simp only [RA, RT] at h1
  obtain ⟨du, hdu, _⟩ := hL.desc hu
  refine ⟨.int k' r, ?_, by simp only [RA, RT]⟩
  simp only [execOp, h1, convert, Sem.run_bind, run_underlying hdu, run_underlying (hL.int ht hd), Result.andThen_ok]
  cases du <;> simp [Conv.intToInt, hr]
end
end Go.Proofs.YtbfomgchjlkopaaDoor
namespace Go.Proofs.YtbfomgchjlkopaaDoor
open Go.RowKit
/-- parts laid into cells -/
def fillA (pl : Nat → Option (Nat × Nat)) (cs : List AV) : List (Nat × AV) → Option (List AV)
  | [] => some cs
  | (i, v) :: rest =>
    match pl i with
    | none => none
    | some (off, size) => cond (Nat.beq (cellsA v).length size && Nat.ble (off + size) cs.length && allOne (cellsA v)) (fillA pl (spl cs off (cellsA v)) rest) none
theorem foldl_spl : ∀ (vs : List Value) (off k : Nat) (cs : Array Value), (vs.zipIdx k).foldl (fun cs (p : Value × Nat) => cs.setIfInBounds (off + p.2) p.1) cs = (spl cs.toList (off + k) vs).toArray
  | [], off, k, cs => by simp [spl]
  | v :: vs, off, k, cs => by
    simp only [List.zipIdx_cons, List.foldl_cons, spl]
    rw [foldl_spl vs off (k + 1)]
    simp [Nat.add_assoc]
theorem fill_sound {M : Mm} {pl pl' : Nat → Option (Nat × Nat)} (hpl : ∀ i p, pl i = some p → pl' i = some p) {ρ : Operand → AV} {e : Operand → Value} : ∀ {parts : List (Nat × Operand)} {cs cs' : List AV} {xs : List Value}, (∀ p ∈ parts, RA M (ρ p.2) (e p.2)) → RAs M cs xs → OneAll xs → fillA pl cs (parts.map fun p => (p.1, ρ p.2)) = some cs' →
    ∃ ys : List Value, Instr.fill pl' xs.toArray (parts.map fun p => (p.1, e p.2)) = some ys.toArray ∧ RAs M cs' ys ∧ OneAll ys ∧ ys.length = xs.length
  | [], cs, cs', xs, _, hx, h1, hf => by
    simp only [List.map_nil, fillA, Option.some.injEq] at hf
    subst hf
    exact ⟨xs, rfl, hx, h1, rfl⟩
  | (i, o) :: parts, cs, cs', xs, he, hx, h1, hf => by
    simp only [List.map_cons, fillA] at hf
    cases hp : pl i with
    | none => rw [hp] at hf; cases hf
    | some p =>
      obtain ⟨off, size⟩ := p
      rw [hp] at hf
      simp only at hf
      cases hc : (Nat.beq (cellsA (ρ o)).length size && Nat.ble (off + size) cs.length && allOne (cellsA (ρ o))) with
      | false => rw [hc] at hf; cases hf
      | true =>
        rw [hc] at hf
        simp only [cond_true] at hf
        simp only [Bool.and_eq_true] at hc
        obtain ⟨⟨ha, hb⟩, ho⟩ := hc
        have ha := Nat.eq_of_beq_eq_true ha
        have hb := Nat.le_of_ble_eq_true hb
        obtain ⟨hce, hone⟩ := cells_of (he (i, o) (by simp)) ho
        have hl1 := hce.len
        have hl2 := hx.len
        obtain ⟨ys, g1, g2, g3, g4⟩ := fill_sound hpl (fun p hp => he p (List.mem_cons_of_mem _ hp)) (RAs.spl (k := off) hx hce) (spl_one h1 hone) hf
        refine ⟨ys, ?_, g2, g3, by rw [g4, spl_len]⟩
        have hsz : (e o).cells.size = size := by rw [← ha, ← hl1]; simp
        simp only [List.map_cons, Instr.fill, hpl i _ hp]
        have hnot : (decide ((e o).cells.size ≠ size) || decide (off + (e o).cells.size > xs.toArray.size)) = false := by simp; omega
        rw [if_neg (by simpa using hnot)]
        have := foldl_spl (e o).cells.toList off 0 xs.toArray
        simp only [Nat.add_zero] at this
        rw [← Array.foldl_toList, Array.toList_zipIdx]
        rw [this]
        exact g1
section
variable {P : Program} {F : Frm} {L : Tab} {d : Option Tmp} {ty : TypeId} {pos : String} {aft : Array Edge} {g : Option (Nat × Bool)} {ρ : Operand → AV} {hp : List Blk} {K : AV → List Blk → Prop}
theorem RAs.lits {M : Mm} : ∀ l : List Value, RAs M (l.map fun v => .c (.lit v)) l
  | [] => by simp [RAs]
  | v :: l => by simp only [List.map_cons, RAs, RA, RT]; exact ⟨v, l, rfl, rfl, RAs.lits l⟩
theorem mapM_sizes (w : World) : ∀ (fields : List Field), (∀ f ∈ fields, ∃ s, (P.info? f.type).map (·.size) = some s) →
    ∃ l : List (Nat × Nat), (fields.mapM fun f => (do pure (f.offset, ← Go.sizeOf f.type) : Sem (Nat × Nat))).run P w = .ok l w ∧ ∀ (k : Nat) (f : Field) (s : Nat), fields[k]? = some f → (P.info? f.type).map (·.size) = some s → l[k]? = some (f.offset, s)
  | [], _ => ⟨[], rfl, fun k f s h => by simp at h⟩
  | f :: fields, h => by
    obtain ⟨l, h1, h2⟩ := mapM_sizes w fields fun f hf => h f (List.mem_cons_of_mem _ hf)
    obtain ⟨s, hs⟩ := h f (by simp)
    cases hi : P.info? f.type with
    | none => rw [hi] at hs; cases hs
    | some inf =>
      refine ⟨(f.offset, inf.size) :: l, ?_, fun k f' s' hk hs' => ?_⟩
      · simp only [List.mapM_cons, Sem.run_bind, Go.sizeOf, typeInfo, run_program, Result.andThen_ok, hi, Sem.run_pure] at h1 ⊢
        rw [h1]
        rfl
      · cases k with
        | zero =>
          obtain rfl : f = f' := by simpa using hk
          rw [hi] at hs'
          simp only [Option.map_some, Option.some.injEq] at hs'
          simp [hs']
        | succ k => exact h2 k f' s' (by simpa using hk) hs'
theorem flds_all : ∀ {l : List Field} {r : List (Nat × Nat)}, fldsB P l r = true → ∀ f ∈ l, ∃ s, (P.info? f.type).map (·.size) = some s
  | [], [], _, f, hf => by simp at hf
  | x :: l, (o, s) :: r, hb, f, hf => by
    simp only [fldsB, Bool.and_eq_true, beq_iff_eq] at hb
    rcases List.mem_cons.1 hf with rfl | hf
    · exact ⟨s, hb.1.2⟩
    · exact flds_all hb.2 f hf
  | [], _ :: _, hb, _, _ => by cases hb
  | _ :: _, [], hb, _, _ => by cases hb
theorem lo_build (hL : TabOk P L) {t : TypeId} {ti : TI} {fs : List (Nat × Nat)} {parts : List (Nat × Operand)} {cs : List AV} (ht : L.look t = some ti) (hd : ti.d = .struct fs) (hf : fillA (fun i => fs[i]?) (ti.zero.map fun v => .c (.lit v)) (parts.map fun p => (p.1, ρ p.2)) = some cs) (h : K (.agg cs) hp) : LO P F ⟨d, .build t parts.toArray, ty, pos, aft, g⟩ ρ hp K := by
  refine LO.same (fun M e w he hh => ?_) h
  obtain ⟨z, hz, hzc, _, hone⟩ := hL.zero ht
  obtain ⟨dd, h1, h2⟩ := hL.desc ht
  rw [hd] at h2
  cases dd <;> simp [descB] at h2
  rename_i fields
  obtain ⟨pl, hpl1, hpl2⟩ := mapM_sizes w fields.toList (flds_all h2)
  obtain ⟨ys, g1, g2, _, _⟩ := fill_sound (pl' := fun i => pl[i]?) (fun i p hp => by
    obtain ⟨o, s⟩ := p
    obtain ⟨f, h3, h4, h5⟩ := flds_get h2 hp
    rw [hpl2 i f s h3 h5, h4]) (fun p hp => he p.2 (by simp only [Op.operands]; exact List.mem_map.2 ⟨p, by simpa using hp, rfl⟩)) (RAs.lits (M := M) ti.zero) hone hf
  refine ⟨.agg ys.toArray, ?_, by simp only [RA]; exact ⟨ys, rfl, g2⟩⟩
  have hz' : z.cells = ti.zero.toArray := by rw [← hzc]
  have hm : (fields.mapM fun f => (do pure (f.offset, ← Go.sizeOf f.type) : Sem (Nat × Nat))).run P w = .ok pl.toArray w := by
    rw [Array.mapM_eq_mapM_toList, Sem.run_map, hpl1]
    rfl
  simp only [execOp, Instr.build, Sem.run_bind, hz, run_underlying h1, Result.andThen_ok]
  rw [hm]
  simp only [Result.andThen_ok, hz', List.getElem?_toArray]
  simp only [List.map_toArray]
  rw [show (fun x : Nat × Operand => match x with | (i, x) => (i, e x)) = (fun p : Nat × Operand => (p.1, e p.2)) from rfl]
  rw [g1]
  rfl
theorem repl_cells (z : Array Value) (n : Nat) (sz : Nat) (hz : z.size = sz) (h0 : 0 < sz) : (Array.range (n * sz)).map (fun x => z[x % z.size]!) = ((List.range (n * sz)).map fun j => z.toList.getD (j % sz) undef).toArray := by
  apply Array.ext'
  simp only [Array.toList_map, Array.toList_range]
  apply List.map_congr_left
  intro j _
  have : j % sz < z.size := by rw [hz]; exact Nat.mod_lt _ h0
  rw [hz, getElem!_pos z _ this]
  simp [List.getD_eq_getElem?_getD, this]
theorem lo_bslice0 (hL : TabOk P L) {t el : TypeId} {ti te : TI} {n : Nat} {parts : List (Nat × Operand)} {cs : List AV} (ht : L.look t = some ti) (hd : ti.d = .slice el) (hte : L.look el = some te) (h0 : Nat.ble 1 te.size = true) (hn : Nat.ble (n * te.size) 16777216 = true)
    (hf : fillA (fun i => some (i * te.size, te.size)) ((List.range (n * te.size)).map fun j => .c (.lit (te.zero.getD (j % te.size) undef))) (parts.map fun p => (p.1, ρ p.2)) = some cs) {M : Mm} {e : Operand → Value} {w : World} (he : ∀ p ∈ parts, RA M (ρ p.2) (e p.2)) :
    ∃ ys : List Value, (execOp e ⟨d, .buildSlice t n parts.toArray, ty, pos, aft, g⟩).run P w = .ok (.value (.slice (some ⟨w.heap.size, 0, none⟩) n n)) (w.alloc (.cells ys.toArray el)) ∧ RAs M cs ys ∧ OneAll ys ∧ ys.length = n * te.size := by
  obtain ⟨z, hz, hzc, hzs, hone⟩ := hL.zero hte
  have h0' := Nat.le_of_ble_eq_true h0
  have hn' := Nat.le_of_ble_eq_true hn
  have hzl : te.zero.length = te.size := by rw [← hzc, ← hzs]; simp
  have hx0 : RAs M ((List.range (n * te.size)).map fun j => AV.c (.lit (te.zero.getD (j % te.size) undef))) ((List.range (n * te.size)).map fun j => te.zero.getD (j % te.size) undef) := by
    have := RAs.lits (M := M) ((List.range (n * te.size)).map fun j => te.zero.getD (j % te.size) undef)
    simpa [List.map_map, Function.comp_def] using this
  have ho0 : OneAll ((List.range (n * te.size)).map fun j => te.zero.getD (j % te.size) undef) := by
    intro x hx
    simp only [List.mem_map, List.mem_range] at hx
    obtain ⟨j, _, rfl⟩ := hx
    have : j % te.size < te.zero.length := by rw [hzl]; exact Nat.mod_lt _ h0'
    rw [List.getD_eq_getElem?_getD, List.getElem?_eq_getElem this]
    exact hone _ (List.getElem_mem _)
  obtain ⟨ys, g1, g2, g3, g4⟩ := fill_sound (pl' := fun i => some (i * te.size, te.size)) (fun i p hp => hp) he hx0 ho0 hf
  refine ⟨ys, ?_, g2, g3, by rw [g4]; simp⟩
  have hcell : (Array.range (n * te.size)).map (fun x => z.cells[x % z.cells.size]!) = ((List.range (n * te.size)).map fun j => te.zero.getD (j % te.size) undef).toArray := by
    rw [repl_cells z.cells n te.size hzs h0', hzc]
  have hbig : ¬ n * te.size > 2 ^ 24 := by omega
  simp only [execOp, Instr.buildSlice, Sem.run_bind, run_underlying (hL.slice ht hd), Result.andThen_ok, hL.sizeOf hte, if_neg hbig, Sem.run_pure, List.map_toArray]
  rw [show (fun x : Nat × Operand => match x with | (i, x) => (i, e x)) = (fun p : Nat × Operand => (p.1, e p.2)) from rfl]
  by_cases hnz : n * te.size = 0
  · have hr0 : Array.range 0 = #[] := rfl
    rw [hnz] at g1
    simp only [List.range_zero, List.map_nil] at g1
    simp [hnz, hr0, g1, newRow]
  · simp only [hnz, if_false, Sem.run_bind, hz, Sem.run_pure, Result.andThen_ok, hcell, g1]
    simp [newRow]
theorem lo_bslice (hL : TabOk P L) {t el : TypeId} {ti te : TI} {n : Nat} {parts : List (Nat × Operand)} {cs : List AV} {ts : List T} (ht : L.look t = some ti) (hd : ti.d = .slice el) (hte : L.look el = some te) (h0 : Nat.ble 1 te.size = true) (hn : Nat.ble (n * te.size) 16777216 = true)
    (hf : fillA (fun i => some (i * te.size, te.size)) ((List.range (n * te.size)).map fun j => .c (.lit (te.zero.getD (j % te.size) undef))) (parts.map fun p => (p.1, ρ p.2)) = some cs) (hz : Rzs [] cs ts) (h : K (.c (.row n te.size ts)) hp) : LO P F ⟨d, .buildSlice t n parts.toArray, ty, pos, aft, g⟩ ρ hp K := by
  refine ⟨fun M e w he hh => ?_⟩
  obtain ⟨ys, hr, hy, hone, hl⟩ := lo_bslice0 (d := d) (ty := ty) (pos := pos) (aft := aft) (g := g) hL ht hd hte h0 hn hf (fun p hp => he p.2 (by simp only [Op.operands]; exact List.mem_map.2 ⟨p, by simpa using hp, rfl⟩)) (w := w)
  rw [hr]
  have hyt := cls_sound _ _ _ hz hy
  have hb : Below w.heap.size w (w.alloc (.cells ys.toArray el)) := (Below.refl _ _).alloc (Nat.le_refl _) _
  have hm0 := hh.mem.below hb
  have hM := frz_ext (M := M) w.heap.size (w.alloc (.cells ys.toArray el))
  refine ⟨frz M w.heap.size (w.alloc (.cells ys.toArray el)), _, hp, h, (hM.low hh.frm.size), hh.below hb hM (frz_ok hm0 _), ?_⟩
  have h0' := Nat.le_of_ble_eq_true h0
  have hn' := Nat.le_of_ble_eq_true hn
  have hnm : n ≤ maxLen := by
    have : n ≤ n * te.size := Nat.le_mul_of_pos_right n h0'
    unfold maxLen; omega
  simp only [RA, RT]
  refine ⟨_, _, ys, rfl, Nat.le_refl _, hnm, h0', hl, fun _ => ⟨_, rfl, fun j x hj => ?_⟩, RTs.mono hM.sub _ _ hyt⟩
  have hadd : (⟨w.heap.size, 0, none⟩ : Addr).add j = ⟨w.heap.size, j, none⟩ := by rw [box_add]; simp
  rw [hadd]
  refine frz_new (mem_fresh hh.mem (Nat.le_refl _)) (Nat.le_refl _) ?_ (hone x (List.mem_of_getElem? hj))
  rw [World.cell?_alloc_new]
  simpa using hj
theorem lo_bslice_own (hL : TabOk P L) {t el : TypeId} {ti te : TI} {n : Nat} {parts : List (Nat × Operand)} {cs : List AV} {ts : List T} (ht : L.look t = some ti) (hd : ti.d = .slice el) (hte : L.look el = some te) (h0 : Nat.ble 1 te.size = true) (hn : Nat.ble (n * te.size) 16777216 = true)
    (hf : fillA (fun i => some (i * te.size, te.size)) ((List.range (n * te.size)).map fun j => .c (.lit (te.zero.getD (j % te.size) undef))) (parts.map fun p => (p.1, ρ p.2)) = some cs) (hz : Rzs [] cs ts) (h : ∀ v, K (.own hp.length v) (hp ++ [.row v el te.size n ts])) : LO P F ⟨d, .buildSlice t n parts.toArray, ty, pos, aft, g⟩ ρ hp K := by
  refine ⟨fun M e w he hh => ?_⟩
  obtain ⟨ys, hr, hy, hone, hl⟩ := lo_bslice0 (d := d) (ty := ty) (pos := pos) (aft := aft) (g := g) hL ht hd hte h0 hn hf (fun p hp => he p.2 (by simp only [Op.operands]; exact List.mem_map.2 ⟨p, by simpa using hp, rfl⟩)) (w := w)
  rw [hr]
  have h0' := Nat.le_of_ble_eq_true h0
  have hn' := Nat.le_of_ble_eq_true hn
  have hnm : n ≤ maxLen := by
    have : n ≤ n * te.size := Nat.le_mul_of_pos_right n h0'
    unfold maxLen; omega
  have hyt := cls_sound _ _ _ hz hy
  have hown : (w.alloc (.cells ys.toArray el)).ownsRow 0 el te.size (.slice (some ⟨w.heap.size, 0, none⟩) n n) n ys :=
    ⟨hl, .inr ⟨w.heap.size, n, ys.toArray, rfl, Nat.zero_le _, heap_alloc_new w _, Nat.le_refl _, hnm, by simpa using hl, by simp [← hl]⟩⟩
  refine ⟨M, _, _, h (.slice (some ⟨w.heap.size, 0, none⟩) n n), Ext.refl _ _, ?_, by simp only [RA]; exact ⟨trivial, rfl⟩⟩
  refine push_row (w' := w.alloc (.cells ys.toArray el)) (x := .row (.slice (some ⟨w.heap.size, 0, none⟩) n n) el te.size n ts) hh rfl rfl rfl (by simp) (fun b hb => Below.heap_alloc _ _ _ hb) (Ext.refl _ _) (fun p v h1 h2 => by rw [h2] at h1; cases h1) ⟨ys, ownsO_of hown, hyt, hone, h0'⟩ (fun b hb => ?_)
  obtain rfl : w.heap.size = b := by simpa [Blk.blk, Value.ownBlock] using hb
  exact ⟨Nat.le_refl _, fun p hp => mem_fresh hh.mem (by omega)⟩
theorem lo_func {f : Fn} {cap : List Operand} (h : K (.fn f (cap.map ρ)) hp) : LO P F ⟨d, .makeFunc f #[] cap.toArray, ty, pos, aft, g⟩ ρ hp K := by
  refine LO.same (fun M e w he hh => ?_) h
  refine ⟨.func f #[] (cap.map e).toArray, by simp [execOp, Instr.makeFunc], ?_⟩
  simp only [RA]
  exact ⟨_, rfl, ev_all cap (fun x hx => he x (by simp [Op.operands, hx]))⟩
end
end Go.Proofs.YtbfomgchjlkopaaDoor
namespace Go.Proofs.YtbfomgchjlkopaaDoor
open Go.RowKit
theorem neg_t {b : Bool} (h : b = false) : (!b) = true := by rw [h]; rfl
theorem neg_f {b : Bool} (h : b = true) : (!b) = false := by rw [h]; rfl
def evl {α : Type} : List α → Option (List α)
  | [] => some []
  | a :: l => match evl l with | some r => some (a :: r) | none => none
theorem evl_eq {α : Type} : ∀ {l r : List α}, evl l = some r → r = l
  | [], r, h => by simp only [evl, Option.some.injEq] at h; exact h.symm
  | a :: l, r, h => by
    simp only [evl] at h
    cases hl : evl l with
    | none => rw [hl] at h; cases h
    | some r' =>
      rw [hl] at h
      simp only [Option.some.injEq] at h
      rw [← h, evl_eq hl]
def lenU {α : Type} : List α → Option Nat
  | [] => some 0
  | _ :: l => match lenU l with | some n => some (n + 1) | none => none
theorem lenU_eq {α : Type} : ∀ {l : List α} {n : Nat}, lenU l = some n → n = l.length
  | [], n, h => by simp only [lenU, Option.some.injEq] at h; exact h.symm
  | a :: l, n, h => by
    simp only [lenU] at h
    cases hl : lenU l with
    | none => rw [hl] at h; cases h
    | some m =>
      rw [hl] at h
      simp only [Option.some.injEq] at h
      rw [← h, lenU_eq hl]; rfl
section
variable {P : Program} {F : Frm} {L : Tab} {d : Option Tmp} {ty : TypeId} {pos : String} {aft : Array Edge} {g : Option (Nat × Bool)} {ρ : Operand → AV} {hp : List Blk} {K : AV → List Blk → Prop}
theorem v_alloc (hL : TabOk P L) {t : TypeId} {ti : TI} {cs : List AV} {n : Nat} {hp' : Nat → List Blk} (ht : L.look t = some ti) (hz : evl (ti.zero.map fun v => AV.c (.lit v)) = some cs) (hn : lenU hp = some n) (hf : ∀ b, evl (hp ++ [.box b t cs]) = some (hp' b)) (h : ∀ b, K (.ptr n b 0) (hp' b)) : LO P F ⟨d, .alloc t, ty, pos, aft, g⟩ ρ hp K :=
  lo_alloc hL ht fun b => by rw [← evl_eq hz, ← evl_eq (hf b), ← lenU_eq hn]; exact h b
theorem v_box {t : TypeId} {x : Operand} {v : AV} {cs : List AV} {n : Nat} {hp' : Nat → List Blk} (hv : ρ x = v) (hc : evl (cellsA v) = some cs) (h1 : allOne cs = true) (hn : lenU hp = some n) (hf : ∀ b, evl (hp ++ [.box b t cs]) = some (hp' b)) (h : ∀ b, K (.ptr n b 0) (hp' b)) : LO P F ⟨d, .box t x, ty, pos, aft, g⟩ ρ hp K :=
  lo_box hv (by rw [← evl_eq hc]; exact h1) fun b => by rw [← evl_eq hc, ← evl_eq (hf b), ← lenU_eq hn]; exact h b
theorem v_store (hL : TabOk P L) {t : TypeId} {ti : TI} {x y : Operand} {i b off : Nat} {tb : TypeId} {cs vs cs' : List AV} {v : AV} {hp' : List Blk} (hx : ρ x = .ptr i b off) (hi : hp[i]? = some (.box b tb cs)) (hv : ρ y = v) (ht : L.look t = some ti) (hc : evl (cellsA v) = some vs) (h1 : allOne vs = true) (hl : lenU vs = some ti.size) (hb : Nat.ble (off + ti.size) cs.length = true) (hs : evl (spl cs off vs) = some cs') (hf : evl (hp.set i (.box b tb cs')) = some hp')
    (h : K (.c (.lit undef)) hp') : LO P F ⟨d, .store t x y, ty, pos, aft, g⟩ ρ hp K :=
  lo_store hL hx hi hv ht (by rw [← evl_eq hc]; exact h1) (by rw [← evl_eq hc, ← lenU_eq hl]) hb (by rw [← evl_eq hc, ← evl_eq hs, ← evl_eq hf]; exact h)
theorem v_load_box (hL : TabOk P L) {t : TypeId} {ti : TI} {x : Operand} {i b off : Nat} {tb : TypeId} {cs l : List AV} (hx : ρ x = .ptr i b off) (hi : hp[i]? = some (.box b tb cs)) (ht : L.look t = some ti) (ha : ti.agg = true) (hl : Nat.ble (off + ti.size) cs.length = true) (he : evl ((cs.drop off).take ti.size) = some l) (h : K (.agg l) hp) : LO P F ⟨d, .load t x, ty, pos, aft, g⟩ ρ hp K :=
  lo_load_box hL hx hi ht ha hl (by rw [← evl_eq he]; exact h)
theorem v_app (hL : TabOk P L) {t el : TypeId} {ti te : TI} {x y : Operand} {i n m sz : Nat} {v : Value} {cs ts : List T} {hp' : Value → List Blk} (hx : ρ x = .own i v) (hi : hp[i]? = some (.row v el sz n cs)) (hy : ρ y = .c (.row m sz ts)) (ht : L.look t = some ti) (hd : ti.d = .slice el) (hte : L.look el = some te) (hsz : te.size = sz) (hf : ∀ v', evl (hp.set i (.row v' el sz (n + m) (cs ++ ts))) = some (hp' v')) (h63 : n + m ≤ maxLen) (hbytes : (n + m) * te.bytes ≤ 140737488355328)
    (h : ∀ v', K (.own i v') (hp' v')) : LO P F ⟨d, .call { callee := .builtin .append, args := #[x, y], argTypes := #[t, t] }, ty, pos, aft, g⟩ ρ hp K :=
  lo_app hL hx hi hy ht hd hte hsz h63 hbytes fun v' => by rw [← evl_eq (hf v')]; exact h v'
theorem v_build (hL : TabOk P L) {t : TypeId} {ti : TI} {fs : List (Nat × Nat)} {parts : List (Nat × Operand)} {cs cs' : List AV} (ht : L.look t = some ti) (hd : ti.d = .struct fs) (hf : fillA (fun i => fs[i]?) (ti.zero.map fun v => .c (.lit v)) (parts.map fun p => (p.1, ρ p.2)) = some cs) (he : evl cs = some cs') (h : K (.agg cs') hp) : LO P F ⟨d, .build t parts.toArray, ty, pos, aft, g⟩ ρ hp K :=
  lo_build hL ht hd hf (by rw [← evl_eq he]; exact h)
theorem v_bslice (hL : TabOk P L) {t el : TypeId} {ti te : TI} {n : Nat} {parts : List (Nat × Operand)} {cs cs' : List AV} {ts : List T} (ht : L.look t = some ti) (hd : ti.d = .slice el) (hte : L.look el = some te) (h0 : Nat.ble 1 te.size = true) (hn : Nat.ble (n * te.size) 16777216 = true)
    (hf : fillA (fun i => some (i * te.size, te.size)) ((List.range (n * te.size)).map fun j => .c (.lit (te.zero.getD (j % te.size) undef))) (parts.map fun p => (p.1, ρ p.2)) = some cs) (he : evl cs = some cs') (hz : Rzs [] cs' ts) (h : K (.c (.row n te.size ts)) hp) : LO P F ⟨d, .buildSlice t n parts.toArray, ty, pos, aft, g⟩ ρ hp K :=
  lo_bslice hL ht hd hte h0 hn hf (by rw [← evl_eq he]; exact hz) h
theorem v_bslice_own (hL : TabOk P L) {t el : TypeId} {ti te : TI} {n k : Nat} {parts : List (Nat × Operand)} {cs cs' : List AV} {ts : List T} {hp' : Value → List Blk} (ht : L.look t = some ti) (hd : ti.d = .slice el) (hte : L.look el = some te) (h0 : Nat.ble 1 te.size = true) (hn : Nat.ble (n * te.size) 16777216 = true)
    (hf : fillA (fun i => some (i * te.size, te.size)) ((List.range (n * te.size)).map fun j => .c (.lit (te.zero.getD (j % te.size) undef))) (parts.map fun p => (p.1, ρ p.2)) = some cs) (he : evl cs = some cs') (hz : Rzs [] cs' ts) (hk : lenU hp = some k) (hq : ∀ v, evl (hp ++ [.row v el te.size n ts]) = some (hp' v)) (h : ∀ v, K (.own k v) (hp' v)) : LO P F ⟨d, .buildSlice t n parts.toArray, ty, pos, aft, g⟩ ρ hp K :=
  lo_bslice_own hL ht hd hte h0 hn hf (by rw [← evl_eq he]; exact hz) fun v => by rw [← evl_eq (hq v), ← lenU_eq hk]; exact h v
theorem v_func {f : Fn} {cap : List Operand} {l : List AV} (he : evl (cap.map ρ) = some l) (h : K (.fn f l) hp) : LO P F ⟨d, .makeFunc f #[] cap.toArray, ty, pos, aft, g⟩ ρ hp K :=
  lo_func (by rw [← evl_eq he]; exact h)
/-- calling a function value that came in -/
theorem v_callc {f : FuncId} {y : Operand} {xs : List Operand} {ats : Array TypeId} {ts cap : List T} {R : T → Prop} (hc : AF P f ts R) (hy : ρ y = .c (.fn (.func f) cap)) (hx : Rzs [] (xs.map ρ ++ cap.map .c) ts) (h : ∀ r, R r → K (.c r) hp) : LO P F ⟨d, .call { callee := .value y, args := xs.toArray, argTypes := ats }, ty, pos, aft, g⟩ ρ hp K := by
  refine ⟨fun M e w he hh => ?_⟩
  obtain ⟨hf, hcall⟩ := hc
  have h1 := he y (by first | (simp [Op.operands]; done) | simp [Op.operands, Call.operands])
  rw [hy] at h1
  simp only [RA, RT] at h1
  obtain ⟨cs, hu, hcs⟩ := h1
  rw [run_call hf hu]
  have hargs := cls_sound _ _ _ hx ((ev_all xs (fun x hx => he x (by simp [Op.operands, Call.operands, hx]))).app (RAs.ofT hcs))
  refine (hcall M w _ hh.glob hh.mem hargs).mono ?_
  rintro en w' ⟨v, r, M', rfl, hR, hext, hm, hrt, hb⟩
  exact ⟨v, rfl, M', _, hp, h r hR, (hext.low hh.frm.size), hh.below hb hext hm, by simp only [RA]; exact hrt⟩
/-- a slot with nil becomes a row of the call's own -/
theorem wk_own {σ : AS} (s : Nat) (e : TypeId) (sz : Nat) (h0 : 0 < sz) {k : Nat} (hs : σ.tmps s = .c (.lit (.slice none 0 0))) (_hn : lenU σ.hp = some k) {hp' : List Blk} (hf : evl (σ.hp ++ [.row (.slice none 0 0) e sz 0 []]) = some hp') (hN : Nat.blt s σ.N = true) : Wk F σ (σ.st (some s) (.own k (.slice none 0 0)) hp') := by
  intro M a w hr
  have hh : HeapOk F M hp' w := by
    rw [evl_eq hf]
    refine push_row hr.heap rfl rfl rfl (Nat.le_refl _) (fun _ _ => rfl) (Ext.refl _ _) (fun p v h1 h2 => by rw [h2] at h1; cases h1) ⟨[], ownsO_nil _ _ _, by simp only [RTs], fun x hx => by simp at hx, h0⟩ (fun b hb => by simp [Blk.blk, Value.ownBlock] at hb)
  refine ⟨M, fun i => ?_, hr.size, hr.defers, hh⟩
  simp only [AS.st]
  cases hc : Nat.beq i s with
  | false => simp only [Bool.false_and, cond_false]; exact hr.tmps i
  | true =>
    have := Nat.eq_of_beq_eq_true hc
    subst this
    have h1 := hr.tmps i
    rw [hs] at h1
    simp only [RA, RT] at h1
    rw [hN]
    simp only [Bool.and_self, cond_true, RA]
    exact ⟨h1, rfl⟩
end
def upd (N : Nat) (d : Tmp) (v : AV) (τ : Nat → AV) : Nat → AV := fun i => cond (Nat.beq i d && Nat.blt d N) v (τ i)
def evT (τ : Nat → AV) : Operand → AV
  | .tmp t => τ t
  | .const v => .c (.lit v)
  | .global g => .c (.lit (.pointer (some ⟨g, 0, none⟩)))
  | .func f => .fn (.func f) []
def initT (N : Nat) (args : List AV) : Nat → AV := fun i => cond (Nat.blt i N) (args.getD i (.c (.lit undef))) (.c (.lit undef))
def atT (τ : Nat → AV) (W : List Nat) (l : List (Nat × AV)) : Nat → AV := fun i => match lkp i l with | some v => v | none => cond (memB i W) .junk (τ i)
theorem evT_eq {τ : Nat → AV} {hp : List Blk} {N : Nat} : (AS.mk τ hp N).ev = evT τ := by funext x; cases x <;> rfl
section
variable {P : Program} {F : Frm} {L : Tab} {ops : Array Oper} {K : AS → Prop} {τ : Nat → AV} {hp : List Blk} {N : Nat} {rest : List Oper} {op : Op} {ty : TypeId} {pos : String} {aft : Array Edge} {g : Nat} {b c : Bool} {d t : Tmp}
theorem x_op (h : LO P F ⟨some t, op, ty, pos, aft, none⟩ (evT τ) hp fun v hp' => AL P F ops K rest ⟨upd N t v τ, hp', N⟩) : AL P F ops K (⟨some t, op, ty, pos, aft, none⟩ :: rest) ⟨τ, hp, N⟩ :=
  al_op (by rw [evT_eq]; exact h)
theorem x_opn (h : LO P F ⟨none, op, ty, pos, aft, none⟩ (evT τ) hp fun _ hp' => AL P F ops K rest ⟨τ, hp', N⟩) : AL P F ops K (⟨none, op, ty, pos, aft, none⟩ :: rest) ⟨τ, hp, N⟩ :=
  al_op (by rw [evT_eq]; exact h)
theorem x_yes (hd : (ops[g]?).bind (·.dst) = some d) (hv : τ d = .c (.lit (.bool c))) (hc : c = b)
    (h : LO P F ⟨some t, op, ty, pos, aft, some (g, b)⟩ (evT τ) hp fun v hp' => AL P F ops K rest ⟨upd N t v τ, hp', N⟩) : AL P F ops K (⟨some t, op, ty, pos, aft, some (g, b)⟩ :: rest) ⟨τ, hp, N⟩ := by
  subst hc
  exact al_do d hd hv (by rw [evT_eq]; exact h)
theorem x_yesn (hd : (ops[g]?).bind (·.dst) = some d) (hv : τ d = .c (.lit (.bool c))) (hc : c = b)
    (h : LO P F ⟨none, op, ty, pos, aft, some (g, b)⟩ (evT τ) hp fun _ hp' => AL P F ops K rest ⟨τ, hp', N⟩) : AL P F ops K (⟨none, op, ty, pos, aft, some (g, b)⟩ :: rest) ⟨τ, hp, N⟩ := by
  subst hc
  exact al_do d hd hv (by rw [evT_eq]; exact h)
theorem x_no (hd : (ops[g]?).bind (·.dst) = some d) (hv : τ d = .c (.lit (.bool c))) (hc : c = !b)
    (h : AL P F ops K rest ⟨upd N t (.c (.lit undef)) τ, hp, N⟩) : AL P F ops K (⟨some t, op, ty, pos, aft, some (g, b)⟩ :: rest) ⟨τ, hp, N⟩ := by
  subst hc
  exact al_not d hd hv h
theorem x_non (hd : (ops[g]?).bind (·.dst) = some d) (hv : τ d = .c (.lit (.bool c))) (hc : c = !b)
    (h : AL P F ops K rest ⟨τ, hp, N⟩) : AL P F ops K (⟨none, op, ty, pos, aft, some (g, b)⟩ :: rest) ⟨τ, hp, N⟩ := by
  subst hc
  exact al_not d hd hv h
theorem x_un (hd : (ops[g]?).bind (·.dst) = some d) (hv : τ d = .c (.lit undef))
    (h : AL P F ops K rest ⟨upd N t (.c (.lit undef)) τ, hp, N⟩) : AL P F ops K (⟨some t, op, ty, pos, aft, some (g, b)⟩ :: rest) ⟨τ, hp, N⟩ := al_un d hd hv h
theorem x_unn (hd : (ops[g]?).bind (·.dst) = some d) (hv : τ d = .c (.lit undef))
    (h : AL P F ops K rest ⟨τ, hp, N⟩) : AL P F ops K (⟨none, op, ty, pos, aft, some (g, b)⟩ :: rest) ⟨τ, hp, N⟩ := al_un d hd hv h
end
section
variable {P : Program} {F : Frm} {d : Option Tmp} {ty : TypeId} {pos : String} {aft : Array Edge} {g : Option (Nat × Bool)} {ρ : Operand → AV} {hp : List Blk} {K : AV → List Blk → Prop}
theorem v_pick_t {c x y : Operand} {v : AV} {b : Bool} (hc : ρ c = .c (.lit (.bool b))) (hb : b = true) (hv : ρ x = v) (h : K v hp) : LO P F ⟨d, .pick c x y, ty, pos, aft, g⟩ ρ hp K := by
  subst hb; exact lo_pick_t hc hv h
theorem v_pick_f {c x y : Operand} {v : AV} {b : Bool} (hc : ρ c = .c (.lit (.bool b))) (hb : b = false) (hv : ρ y = v) (h : K v hp) : LO P F ⟨d, .pick c x y, ty, pos, aft, g⟩ ρ hp K := by
  subst hb; exact lo_pick_f hc hv h
end
section
variable {P : Program} {F : Frm} {L : Tab} {τ τ' : Nat → AV} {hp : List Blk} {N : Nat} {Q : Exit → AS → Prop}
theorem x_cond {c : Operand} {x y : Code} {t : Bool} (hc : evT τ c = .c (.lit (.bool t))) (ht : t = true → AC P F x Q ⟨τ, hp, N⟩) (hf : t = false → AC P F y Q ⟨τ, hp, N⟩) : AC P F (.cond c x y) Q ⟨τ, hp, N⟩ := ac_cond (by rw [evT_eq]; exact hc) ht hf
theorem x_t {c : Operand} {x y : Code} {t : Bool} (hc : evT τ c = .c (.lit (.bool t))) (ht : t = true) (h : AC P F x Q ⟨τ, hp, N⟩) : AC P F (.cond c x y) Q ⟨τ, hp, N⟩ := x_cond hc (fun _ => h) (fun h => by rw [ht] at h; cases h)
theorem x_f {c : Operand} {x y : Code} {t : Bool} (hc : evT τ c = .c (.lit (.bool t))) (ht : t = false) (h : AC P F y Q ⟨τ, hp, N⟩) : AC P F (.cond c x y) Q ⟨τ, hp, N⟩ := x_cond hc (fun h => by rw [ht] at h; cases h) (fun _ => h)
/-- outside W the slots are alike -/
def AgT (W : List Nat) (τ τ' : Nat → AV) : Prop := ∀ i, memB i W = false → τ i = τ' i
def HasT (τ : Nat → AV) : List (Nat × AV) → Prop
  | [] => True
  | (d, v) :: l => τ d = v ∧ HasT τ l
theorem ag_refl {W : List Nat} {τ : Nat → AV} : AgT W τ τ := fun _ _ => rfl
theorem ag_upd {W : List Nat} {N : Nat} {d : Tmp} {v : AV} (hd : memB d W = true) (h : AgT W τ τ') : AgT W (upd N d v τ) τ' := by
  have := agree_st (v := v) (hp := []) (σ := ⟨τ, [], N⟩) (τ := ⟨τ', [], N⟩) hd ⟨rfl, h⟩
  exact this.2
theorem ag_at {W W' : List Nat} {l : List (Nat × AV)} (hW : (W'.all fun d => memB d W) = true) (hl : (l.all fun p => memB p.1 W) = true) (h : AgT W τ τ') : AgT W (atT τ W' l) τ' := by
  have := agree_at (hp := []) (σ := ⟨τ, [], 0⟩) (τ := ⟨τ', [], 0⟩) hW hl ⟨rfl, h⟩
  exact this.2
theorem hasT {τ : Nat → AV} {hp : List Blk} {N : Nat} : ∀ {l : List (Nat × AV)}, HasT τ l → Has ⟨τ, hp, N⟩ l
  | [], _ => trivial
  | (_, _) :: _, h => ⟨h.1, hasT h.2⟩
/-- to a loop's head: the slots of l hold these, those of W else are forgotten -/
theorem x_wk {W : List Nat} {l : List (Nat × AV)} {hp' : List Blk} (hl : HasT τ l) (hh : hp = hp') (h : AgT W τ τ') : Wk F ⟨τ, hp, N⟩ ⟨atT τ' W l, hp', N⟩ :=
  wk_at (σ := ⟨τ, hp, N⟩) (τ := ⟨τ', hp, N⟩) (hasT hl) hh ⟨rfl, h⟩
/-- the same, blocks at the end let go -/
theorem x_wkd {W : List Nat} {l : List (Nat × AV)} {hp' : List Blk} (k : Nat) (hl : HasT τ l) (hh : evl (hp.take k) = some hp') (h : AgT W τ τ') : Wk F ⟨τ, hp, N⟩ ⟨atT τ' W l, hp', N⟩ :=
  (wk_drop (σ := ⟨τ, hp, N⟩) k).trans (x_wk hl (evl_eq hh).symm h)
/-- a loop: 'slots' hold these at its head, the other slots of W are forgotten; the blocks are these -/
theorem x_loop {c : Code} {A : Type} (W : List Nat) (slots : A → List (Nat × AV)) (hps : A → List Blk) (I : A → Prop) (μ : A → Nat) (x₀ : A) (h₀ : I x₀) (hl : HasT τ (slots x₀)) (hh : hp = hps x₀)
    (round : ∀ x, I x → AC P F c (thenA (fun σ' => ∃ y, I y ∧ μ y < μ x ∧ Wk F σ' ⟨atT τ W (slots y), hps y, N⟩) Q) ⟨atT τ W (slots x), hps x, N⟩) : AC P F (.loop c) Q ⟨τ, hp, N⟩ :=
  ac_loop (fun x => ⟨atT τ W (slots x), hps x, N⟩) I μ x₀ h₀ (x_wk hl hh ag_refl) round
theorem x_drop {c : Code} (k : Nat) {hp' : List Blk} (hh : evl (hp.take k) = some hp') (h : AC P F c Q ⟨τ, hp', N⟩) : AC P F c Q ⟨τ, hp, N⟩ :=
  ac_wk (wk_drop (σ := ⟨τ, hp, N⟩) k) (by rw [evl_eq hh] at h; exact h)
/-- a slot with nil becomes a row of the call's own -/
theorem x_own {c : Code} (s : Nat) (e : TypeId) (sz : Nat) (h0 : Nat.ble 1 sz = true) {k : Nat} (hs : τ s = .c (.lit (.slice none 0 0))) (hn : lenU hp = some k) {hp' : List Blk} (hf : evl (hp ++ [.row (.slice none 0 0) e sz 0 []]) = some hp') (hN : Nat.blt s N = true) (h : AC P F c Q ⟨upd N s (.own k (.slice none 0 0)) τ, hp', N⟩) : AC P F c Q ⟨τ, hp, N⟩ :=
  ac_wk (wk_own (σ := ⟨τ, hp, N⟩) s e sz (Nat.le_of_ble_eq_true h0) hs hn hf hN) h
theorem outs_nil {σ : AS} : Outs L σ [] [] := by simp only [Outs]
theorem outs_cons {σ : AS} {r : ResultVar} {rs : List ResultVar} {t : T} {ts : List T} (h : Out1 L σ r t) (h' : Outs L σ rs ts) : Outs L σ (r :: rs) (t :: ts) := by simp only [Outs]; exact ⟨t, ts, rfl, h, h'⟩
theorem out_tmp {i : Tmp} {v : AV} {t : T} (hv : τ i = v) (h : Rz hp v t) : Out1 L ⟨τ, hp, N⟩ (.tmp i) t := by simp only [Out1]; rw [hv]; exact h
theorem out_agg {a : Tmp} {ty tb : TypeId} {i b off : Nat} {cs l : List AV} {ti : TI} {t : T} (h1 : τ a = .ptr i b off) (h2 : hp[i]? = some (.box b tb cs)) (h3 : L.look ty = some ti) (ha : ti.agg = true) (hl : Nat.ble (off + ti.size) cs.length = true) (he : evl ((cs.drop off).take ti.size) = some l) (h : Rz hp (.agg l) t) : Out1 L ⟨τ, hp, N⟩ (.cell a ty) t := by
  simp only [Out1]
  refine ⟨i, b, off, tb, cs, ti, h1, h2, h3, ?_⟩
  rw [ha]
  exact ⟨Nat.le_of_ble_eq_true hl, by rw [← evl_eq he]; exact h⟩
theorem out_one {a : Tmp} {ty tb : TypeId} {i b off : Nat} {cs : List AV} {ti : TI} {v : AV} {t : T} (h1 : τ a = .ptr i b off) (h2 : hp[i]? = some (.box b tb cs)) (h3 : L.look ty = some ti) (ha : ti.agg = false) (hv : cs[off]? = some v) (h : Rz hp v t) : Out1 L ⟨τ, hp, N⟩ (.cell a ty) t := by
  simp only [Out1]
  refine ⟨i, b, off, tb, cs, ti, h1, h2, h3, ?_⟩
  rw [ha]
  exact ⟨v, hv, h⟩
theorem fin_n {σ : AS} {res : List ResultVar} {R : T → Prop} {ts : List T} (h : Outs L σ res ts) (hR : R (outT ts)) : Fin L res R .normal σ := ⟨⟨.inl rfl, ts, h, hR⟩⟩
theorem fin_r {σ : AS} {res : List ResultVar} {R : T → Prop} {ts : List T} (h : Outs L σ res ts) (hR : R (outT ts)) : Fin L res R .ret σ := ⟨⟨.inr rfl, ts, h, hR⟩⟩
theorem af_enter {f : FuncId} {fn : Func} {c : Code} {args : List T} {asq : List AV} {R : T → Prop} {N : Nat} {res : List ResultVar} (hL : TabOk P L) (hf : P.funcs[f]? = some fn) (hNt : fn.ntmps = N) (hres : fn.results = res.toArray) (hb : fn.body = some c) (hn : (fn.name == "runtime.NumGoroutine") = false) (ha : evl (args.map .c) = some asq) (hN : Nat.ble asq.length N = true)
    (h : ∀ F, (∀ b, ¬ F.X b) → AC P F c (Fin L res R) ⟨initT N asq, [], N⟩) : AF P f args R := by
  refine af_of hL hf hb hn ?_ fun F hX => ?_
  · have := Nat.le_of_ble_eq_true hN
    rw [evl_eq ha] at this
    rw [hNt]; simpa using this
  · rw [hNt, hres, ← evl_eq ha]; exact h F hX
end
section
variable {F : Frm} {τ : Nat → AV} {hp : List Blk} {N : Nat}
def frB (M : Mm) (g : Option Nat) (w : World) : Mm := fun p =>
  match M p with
  | some v => some v
  | none => if g = some p.block then (w.cell? p).bind fun v => if v.oneCell' = true then some v else none else none
theorem frB_sub (M : Mm) (g : Option Nat) (w : World) : Sub M (frB M g w) := fun p v h => by simp [frB, h]
theorem frB_new {M : Mm} {g : Option Nat} {w : World} {p : Addr} {v : Value} (hp : frB M g w p = some v) (hn : M p = none) : g = some p.block ∧ w.cell? p = some v ∧ v.oneCell' = true := by
  unfold frB at hp
  rw [hn] at hp
  simp only at hp
  split at hp
  · rename_i hg
    refine ⟨hg, ?_⟩
    cases hc : w.cell? p with
    | none => rw [hc] at hp; simp at hp
    | some u =>
      rw [hc] at hp
      simp only [Option.bind_some] at hp
      split at hp
      · injection hp with hp; subst hp; exact ⟨rfl, by assumption⟩
      · cases hp
  · cases hp
theorem heap_frz {M : Mm} {w : World} (hh : HeapOk F M hp w) {i : Nat} {v : Value} {e : TypeId} {sz n : Nat} {ts : List T} (hi : hp[i]? = some (.row v e sz n ts)) :
    HeapOk F (frB M v.ownBlock w) (hp.set i .dead) w ∧ RT (frB M v.ownBlock w) (.row n sz ts) v := by
  have hsub := frB_sub M v.ownBlock w
  have hlt : i < hp.length := (List.getElem?_eq_some_iff.1 hi).1
  have hget : ∀ (j : Nat) (x : Blk), (hp.set i .dead)[j]? = some x → (j = i ∧ x = .dead) ∨ (j ≠ i ∧ hp[j]? = some x) := by
    intro j x hx
    by_cases hj : j = i
    · subst hj
      rw [List.getElem?_set_self hlt] at hx
      exact .inl ⟨rfl, by injection hx with hx; exact hx.symm⟩
    · rw [List.getElem?_set_ne (Ne.symm hj)] at hx
      exact .inr ⟨hj, hx⟩
  refine ⟨⟨?_, ?_, hh.frm, ?_, ?_, ?_⟩, ?_⟩
  · intro p u hp
    cases hc : M p with
    | none => exact (frB_new hp hc).2
    | some u' =>
      have := hsub p u' hc
      rw [hp] at this
      obtain rfl : u = u' := by injection this
      exact hh.mem p u hc
  · refine ⟨fun p u hp => hsub p u (hh.ext.1 p u hp), fun p u hp => ?_⟩
    cases hc : M p with
    | none =>
      obtain ⟨hg, _⟩ := frB_new hp hc
      exact .inr (hh.out i _ p.block hi hg).1
    | some u' =>
      have := hsub p u' hc
      rw [hp] at this
      obtain rfl : u = u' := by injection this
      exact hh.ext.2 p u hc
  · intro j x hx
    rcases hget j x hx with ⟨_, rfl⟩ | ⟨_, hx⟩
    · trivial
    · exact (hh.at_ j x hx).keep hsub fun _ _ _ => rfl
  · intro j k x y b hx hy hxb hyb
    rcases hget j x hx with ⟨_, rfl⟩ | ⟨_, hx⟩
    · simp [Blk.blk] at hxb
    · rcases hget k y hy with ⟨_, rfl⟩ | ⟨_, hy⟩
      · simp [Blk.blk] at hyb
      · exact hh.sep j k x y b hx hy hxb hyb
  · intro j x b hx hxb
    rcases hget j x hx with ⟨_, rfl⟩ | ⟨hj, hx⟩
    · simp [Blk.blk] at hxb
    · obtain ⟨h1, h2⟩ := hh.out j x b hx hxb
      refine ⟨h1, fun p hp => ?_⟩
      cases hc : frB M v.ownBlock w p with
      | none => rfl
      | some u =>
        obtain ⟨hg, _⟩ := frB_new hc (h2 p hp)
        exact absurd (hh.sep j i x _ b hx hi hxb (by rw [← hp]; exact hg)) hj
  · obtain ⟨xs, ho, hx, h1, hsz⟩ := hh.at_ i _ hi
    obtain ⟨A, c, rfl, hnc, hcm⟩ := ownO_shape ho
    simp only [RT]
    refine ⟨A, c, xs, rfl, hnc, Nat.le_trans hnc hcm, hsz, ho.1, fun hn => ?_, RTs.mono hsub _ _ hx⟩
    obtain ⟨ad, rfl⟩ := ho.some_ hn
    · refine ⟨_, rfl, fun j x hj => ?_⟩
      have hn : M (Addr.add ad j) = none := (hh.out i _ ad.block hi rfl).2 _ (by rw [add_block])
      have hc := ho.cells j x hj
      simp [frB, hn, Value.ownBlock, add_block, hc, h1 x (List.mem_of_getElem? hj)]
theorem wk_fz (s : Nat) {i : Nat} {v : Value} {e : TypeId} {sz n : Nat} {ts : List T} {hp' : List Blk} (hs : τ s = .own i v) (hi : hp[i]? = some (.row v e sz n ts)) (hf : evl (hp.set i .dead) = some hp') (hN : Nat.blt s N = true) : Wk F ⟨τ, hp, N⟩ ⟨upd N s (.c (.row n sz ts)) τ, hp', N⟩ := by
  intro M a w hr
  obtain ⟨h1, h2⟩ := heap_frz hr.heap hi
  rw [← evl_eq hf] at h1
  refine ⟨_, fun k => ?_, hr.size, hr.defers, h1⟩
  simp only [upd]
  cases hc : Nat.beq k s with
  | false => simp only [Bool.false_and, cond_false]; exact RA.mono (frB_sub _ _ _) _ _ (hr.tmps k)
  | true =>
    have := Nat.eq_of_beq_eq_true hc
    subst this
    have h3 : RA M (τ k) (a.tmps.getD k undef) := hr.tmps k
    rw [hs] at h3
    simp only [RA] at h3
    rw [hN]
    simp only [Bool.and_self, cond_true, RA]
    rw [h3.1]; exact h2
theorem x_fz {P : Program} {Q : Exit → AS → Prop} {c : Code} (s : Nat) {i : Nat} {v : Value} {e : TypeId} {sz n : Nat} {ts : List T} {hp' : List Blk} (hs : τ s = .own i v) (hi : hp[i]? = some (.row v e sz n ts)) (hf : evl (hp.set i .dead) = some hp') (hN : Nat.blt s N = true) (h : AC P F c Q ⟨upd N s (.c (.row n sz ts)) τ, hp', N⟩) : AC P F c Q ⟨τ, hp, N⟩ :=
  ac_wk (wk_fz s hs hi hf hN) h
theorem wk_frz (_hX : ∀ b, ¬ F.X b) (s : Nat) {i : Nat} {v : Value} {e : TypeId} {sz n : Nat} {ts : List T} {hp' : List Blk} (hs : τ s = .own i v) (hi : hp[i]? = some (.row v e sz n ts)) (hf : evl (hp.set i .dead) = some hp') (hN : Nat.blt s N = true) : Wk F ⟨τ, hp, N⟩ ⟨upd N s (.c (.row n sz ts)) τ, hp', N⟩ := wk_fz s hs hi hf hN
theorem x_frz {P : Program} {Q : Exit → AS → Prop} {c : Code} (_hX : ∀ b, ¬ F.X b) (s : Nat) {i : Nat} {v : Value} {e : TypeId} {sz n : Nat} {ts : List T} {hp' : List Blk} (hs : τ s = .own i v) (hi : hp[i]? = some (.row v e sz n ts)) (hf : evl (hp.set i .dead) = some hp') (hN : Nat.blt s N = true) (h : AC P F c Q ⟨upd N s (.c (.row n sz ts)) τ, hp', N⟩) : AC P F c Q ⟨τ, hp, N⟩ := x_fz s hs hi hf hN h
end
theorem flat_at {α : Type} (f : α → List T) (sz : Nat) (hf : ∀ a, (f a).length = sz) : ∀ {l : List α} {k : Nat} {x : α}, l[k]? = some x → ((l.flatMap f).drop (k * sz)).take sz = f x
  | [], _, _, h => by simp at h
  | a :: l, 0, x, h => by
    obtain rfl : a = x := by simpa using h
    rw [List.flatMap_cons, Nat.zero_mul, List.drop_zero, ← hf a, List.take_left]
  | a :: l, k + 1, x, h => by
    rw [List.flatMap_cons, List.drop_append, List.drop_eq_nil_of_le (by rw [hf, Nat.add_mul]; omega), List.nil_append, hf, show (k + 1) * sz - sz = k * sz by rw [Nat.add_mul]; omega]
    exact flat_at f sz hf (by simpa using h)
theorem flat_len {α : Type} (f : α → List T) (sz : Nat) (hf : ∀ a, (f a).length = sz) : ∀ l : List α, (l.flatMap f).length = l.length * sz
  | [] => by simp
  | v :: l => by rw [List.flatMap_cons, List.length_append, hf, flat_len f sz hf l, List.length_cons, Nat.add_mul]; omega
theorem flat_get {α : Type} (f : α → List T) (sz : Nat) (hf : ∀ a, (f a).length = sz) {l : List α} {k j : Nat} {x : α} (hk : l[k]? = some x) (hj : j < sz) : (l.flatMap f)[k * sz + j]? = (f x)[j]? := by
  rw [← flat_at f sz hf hk, List.getElem?_take, if_pos hj, List.getElem?_drop]
end Go.Proofs.YtbfomgchjlkopaaDoor
