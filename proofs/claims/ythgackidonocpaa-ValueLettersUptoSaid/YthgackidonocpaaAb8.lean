/-
  Abstract states: struct and slice literals, slice expressions, fields of values, closures.
-/
import Derived.Test.YthgackidonocpaaAb7
namespace Go.Proofs.Ythgackidonocpaa
open Go.RowKit

/-- parts laid into cells -/
def fillA (pl : Nat → Option (Nat × Nat)) (cs : List AV) : List (Nat × AV) → Option (List AV)
  | [] => some cs
  | (i, v) :: rest =>
    match pl i with
    | none => none
    | some (off, size) => cond (Nat.beq (cellsA v).length size && Nat.ble (off + size) cs.length && allOne (cellsA v)) (fillA pl (spl cs off (cellsA v)) rest) none

theorem foldl_spl : ∀ (vs : List Value) (off k : Nat) (cs : Array Value), (vs.zipIdx k).foldl (fun cs (p : Value × Nat) => cs.setIfInBounds (off + p.2) p.1) cs = (spl cs.toList (off + k) vs).toArray
  | [], off, k, cs => by simp [spl]
  | v :: vs, off, k, cs => by
    simp only [List.zipIdx_cons, List.foldl_cons, spl]
    rw [foldl_spl vs off (k + 1)]
    simp [Nat.add_assoc]
theorem fill_sound {M : Mm} {pl pl' : Nat → Option (Nat × Nat)} (hpl : ∀ i p, pl i = some p → pl' i = some p) {ρ : Operand → AV} {e : Operand → Value} : ∀ {parts : List (Nat × Operand)} {cs cs' : List AV} {xs : List Value}, (∀ p ∈ parts, RA M (ρ p.2) (e p.2)) → RAs M cs xs → OneAll xs → fillA pl cs (parts.map fun p => (p.1, ρ p.2)) = some cs' →
    ∃ ys : List Value, Instr.fill pl' xs.toArray (parts.map fun p => (p.1, e p.2)) = some ys.toArray ∧ RAs M cs' ys ∧ OneAll ys ∧ ys.length = xs.length
  | [], cs, cs', xs, _, hx, h1, hf => by
    simp only [List.map_nil, fillA, Option.some.injEq] at hf
    subst hf
    exact ⟨xs, rfl, hx, h1, rfl⟩
  | (i, o) :: parts, cs, cs', xs, he, hx, h1, hf => by
    simp only [List.map_cons, fillA] at hf
    cases hp : pl i with
    | none => rw [hp] at hf; cases hf
    | some p =>
      obtain ⟨off, size⟩ := p
      rw [hp] at hf
      simp only at hf
      cases hc : (Nat.beq (cellsA (ρ o)).length size && Nat.ble (off + size) cs.length && allOne (cellsA (ρ o))) with
      | false => rw [hc] at hf; cases hf
      | true =>
        rw [hc] at hf
        simp only [cond_true] at hf
        simp only [Bool.and_eq_true] at hc
        obtain ⟨⟨ha, hb⟩, ho⟩ := hc
        have ha := Nat.eq_of_beq_eq_true ha
        have hb := Nat.le_of_ble_eq_true hb
        obtain ⟨hce, hone⟩ := cells_of (he (i, o) (by simp)) ho
        have hl1 := hce.len
        have hl2 := hx.len
        obtain ⟨ys, g1, g2, g3, g4⟩ := fill_sound hpl (fun p hp => he p (List.mem_cons_of_mem _ hp)) (RAs.spl (k := off) hx hce) (spl_one h1 hone) hf
        refine ⟨ys, ?_, g2, g3, by rw [g4, spl_len]⟩
        have hsz : (e o).cells.size = size := by rw [← ha, ← hl1]; simp
        simp only [List.map_cons, Instr.fill, hpl i _ hp]
        have hnot : (decide ((e o).cells.size ≠ size) || decide (off + (e o).cells.size > xs.toArray.size)) = false := by simp; omega
        rw [if_neg (by simpa using hnot)]
        have := foldl_spl (e o).cells.toList off 0 xs.toArray
        simp only [Nat.add_zero] at this
        rw [← Array.foldl_toList, Array.toList_zipIdx]
        rw [this]
        exact g1

section
variable {P : Program} {F : Frm} {L : Tab} {d : Option Tmp} {ty : TypeId} {pos : String} {aft : Array Edge} {g : Option (Nat × Bool)} {ρ : Operand → AV} {hp : List Blk} {K : AV → List Blk → Prop}

theorem RAs.lits {M : Mm} : ∀ l : List Value, RAs M (l.map fun v => .c (.lit v)) l
  | [] => by simp [RAs]
  | v :: l => by simp only [List.map_cons, RAs, RA, RT]; exact ⟨v, l, rfl, rfl, RAs.lits l⟩
theorem mapM_sizes (w : World) : ∀ (fields : List Field), (∀ f ∈ fields, ∃ s, (P.info? f.type).map (·.size) = some s) →
    ∃ l : List (Nat × Nat), (fields.mapM fun f => (do pure (f.offset, ← Go.sizeOf f.type) : Sem (Nat × Nat))).run P w = .ok l w ∧ ∀ (k : Nat) (f : Field) (s : Nat), fields[k]? = some f → (P.info? f.type).map (·.size) = some s → l[k]? = some (f.offset, s)
  | [], _ => ⟨[], rfl, fun k f s h => by simp at h⟩
  | f :: fields, h => by
    obtain ⟨l, h1, h2⟩ := mapM_sizes w fields fun f hf => h f (List.mem_cons_of_mem _ hf)
    obtain ⟨s, hs⟩ := h f (by simp)
    cases hi : P.info? f.type with
    | none => rw [hi] at hs; cases hs
    | some inf =>
      refine ⟨(f.offset, inf.size) :: l, ?_, fun k f' s' hk hs' => ?_⟩
      · simp only [List.mapM_cons, Sem.run_bind, Go.sizeOf, typeInfo, run_program, Result.andThen_ok, hi, Sem.run_pure] at h1 ⊢
        rw [h1]
        rfl
      · cases k with
        | zero =>
          obtain rfl : f = f' := by simpa using hk
          rw [hi] at hs'
          simp only [Option.map_some, Option.some.injEq] at hs'
          simp [hs']
        | succ k => exact h2 k f' s' (by simpa using hk) hs'
theorem flds_all : ∀ {l : List Field} {r : List (Nat × Nat)}, fldsB P l r = true → ∀ f ∈ l, ∃ s, (P.info? f.type).map (·.size) = some s
  | [], [], _, f, hf => by simp at hf
  | x :: l, (o, s) :: r, hb, f, hf => by
    simp only [fldsB, Bool.and_eq_true, beq_iff_eq] at hb
    rcases List.mem_cons.1 hf with rfl | hf
    · exact ⟨s, hb.1.2⟩
    · exact flds_all hb.2 f hf
  | [], _ :: _, hb, _, _ => by cases hb
  | _ :: _, [], hb, _, _ => by cases hb
theorem lo_build (hL : TabOk P L) {t : TypeId} {ti : TI} {fs : List (Nat × Nat)} {parts : List (Nat × Operand)} {cs : List AV} (ht : L.look t = some ti) (hd : ti.d = .struct fs) (hf : fillA (fun i => fs[i]?) (ti.zero.map fun v => .c (.lit v)) (parts.map fun p => (p.1, ρ p.2)) = some cs) (h : K (.agg cs) hp) : LO P F ⟨d, .build t parts.toArray, ty, pos, aft, g⟩ ρ hp K := by
  refine LO.same (fun M e w he hh => ?_) h
  obtain ⟨z, hz, hzc, _, hone⟩ := hL.zero ht
  obtain ⟨dd, h1, h2⟩ := hL.desc ht
  rw [hd] at h2
  cases dd <;> simp [descB] at h2
  rename_i fields
  obtain ⟨pl, hpl1, hpl2⟩ := mapM_sizes w fields.toList (flds_all h2)
  obtain ⟨ys, g1, g2, _, _⟩ := fill_sound (pl' := fun i => pl[i]?) (fun i p hp => by
    obtain ⟨o, s⟩ := p
    obtain ⟨f, h3, h4, h5⟩ := flds_get h2 hp
    rw [hpl2 i f s h3 h5, h4]) (fun p hp => he p.2 (by simp only [Op.operands]; exact List.mem_map.2 ⟨p, by simpa using hp, rfl⟩)) (RAs.lits (M := M) ti.zero) hone hf
  refine ⟨.agg ys.toArray, ?_, by simp only [RA]; exact ⟨ys, rfl, g2⟩⟩
  have hz' : z.cells = ti.zero.toArray := by rw [← hzc]
  have hm : (fields.mapM fun f => (do pure (f.offset, ← Go.sizeOf f.type) : Sem (Nat × Nat))).run P w = .ok pl.toArray w := by
    rw [Array.mapM_eq_mapM_toList, Sem.run_map, hpl1]
    rfl
  simp only [execOp, Instr.build, Sem.run_bind, hz, run_underlying h1, Result.andThen_ok]
  rw [hm]
  simp only [Result.andThen_ok, hz', List.getElem?_toArray]
  simp only [List.map_toArray]
  rw [show (fun x : Nat × Operand => match x with | (i, x) => (i, e x)) = (fun p : Nat × Operand => (p.1, e p.2)) from rfl]
  rw [g1]
  rfl
theorem repl_cells (z : Array Value) (n : Nat) (sz : Nat) (hz : z.size = sz) (h0 : 0 < sz) : (Array.range (n * sz)).map (fun x => z[x % z.size]!) = ((List.range (n * sz)).map fun j => z.toList.getD (j % sz) undef).toArray := by
  apply Array.ext'
  simp only [Array.toList_map, Array.toList_range]
  apply List.map_congr_left
  intro j _
  have : j % sz < z.size := by rw [hz]; exact Nat.mod_lt _ h0
  rw [hz, getElem!_pos z _ this]
  simp [List.getD_eq_getElem?_getD, this]
theorem lo_bslice0 (hL : TabOk P L) {t el : TypeId} {ti te : TI} {n : Nat} {parts : List (Nat × Operand)} {cs : List AV} (ht : L.look t = some ti) (hd : ti.d = .slice el) (hte : L.look el = some te) (h0 : Nat.ble 1 te.size = true) (hn : Nat.ble (n * te.size) 16777216 = true)
    (hf : fillA (fun i => some (i * te.size, te.size)) ((List.range (n * te.size)).map fun j => .c (.lit (te.zero.getD (j % te.size) undef))) (parts.map fun p => (p.1, ρ p.2)) = some cs) {M : Mm} {e : Operand → Value} {w : World} (he : ∀ p ∈ parts, RA M (ρ p.2) (e p.2)) :
    ∃ ys : List Value, (execOp e ⟨d, .buildSlice t n parts.toArray, ty, pos, aft, g⟩).run P w = .ok (.value (.slice (some ⟨w.heap.size, 0, none⟩) n n)) (w.alloc (.cells ys.toArray el)) ∧ RAs M cs ys ∧ OneAll ys ∧ ys.length = n * te.size := by
  obtain ⟨z, hz, hzc, hzs, hone⟩ := hL.zero hte
  have h0' := Nat.le_of_ble_eq_true h0
  have hn' := Nat.le_of_ble_eq_true hn
  have hzl : te.zero.length = te.size := by rw [← hzc, ← hzs]; simp
  have hx0 : RAs M ((List.range (n * te.size)).map fun j => AV.c (.lit (te.zero.getD (j % te.size) undef))) ((List.range (n * te.size)).map fun j => te.zero.getD (j % te.size) undef) := by
    have := RAs.lits (M := M) ((List.range (n * te.size)).map fun j => te.zero.getD (j % te.size) undef)
    simpa [List.map_map, Function.comp_def] using this
  have ho0 : OneAll ((List.range (n * te.size)).map fun j => te.zero.getD (j % te.size) undef) := by
    intro x hx
    simp only [List.mem_map, List.mem_range] at hx
    obtain ⟨j, _, rfl⟩ := hx
    have : j % te.size < te.zero.length := by rw [hzl]; exact Nat.mod_lt _ h0'
    rw [List.getD_eq_getElem?_getD, List.getElem?_eq_getElem this]
    exact hone _ (List.getElem_mem _)
  obtain ⟨ys, g1, g2, g3, g4⟩ := fill_sound (pl' := fun i => some (i * te.size, te.size)) (fun i p hp => hp) he hx0 ho0 hf
  refine ⟨ys, ?_, g2, g3, by rw [g4]; simp⟩
  have hcell : (Array.range (n * te.size)).map (fun x => z.cells[x % z.cells.size]!) = ((List.range (n * te.size)).map fun j => te.zero.getD (j % te.size) undef).toArray := by
    rw [repl_cells z.cells n te.size hzs h0', hzc]
  have hbig : ¬ n * te.size > 2 ^ 24 := by omega
  simp only [execOp, Instr.buildSlice, Sem.run_bind, run_underlying (hL.slice ht hd), Result.andThen_ok, hL.sizeOf hte, if_neg hbig, Sem.run_pure, List.map_toArray]
  rw [show (fun x : Nat × Operand => match x with | (i, x) => (i, e x)) = (fun p : Nat × Operand => (p.1, e p.2)) from rfl]
  by_cases hnz : n * te.size = 0
  · have hr0 : Array.range 0 = #[] := rfl
    rw [hnz] at g1
    simp only [List.range_zero, List.map_nil] at g1
    simp [hnz, hr0, g1, newRow]
  · simp only [hnz, if_false, Sem.run_bind, hz, Sem.run_pure, Result.andThen_ok, hcell, g1]
    simp [newRow]
theorem lo_bslice (hL : TabOk P L) {t el : TypeId} {ti te : TI} {n : Nat} {parts : List (Nat × Operand)} {cs : List AV} {ts : List T} (ht : L.look t = some ti) (hd : ti.d = .slice el) (hte : L.look el = some te) (h0 : Nat.ble 1 te.size = true) (hn : Nat.ble (n * te.size) 16777216 = true)
    (hf : fillA (fun i => some (i * te.size, te.size)) ((List.range (n * te.size)).map fun j => .c (.lit (te.zero.getD (j % te.size) undef))) (parts.map fun p => (p.1, ρ p.2)) = some cs) (hz : Rzs [] cs ts) (h : K (.c (.row n te.size ts)) hp) : LO P F ⟨d, .buildSlice t n parts.toArray, ty, pos, aft, g⟩ ρ hp K := by
  refine ⟨fun M e w he hh => ?_⟩
  obtain ⟨ys, hr, hy, hone, hl⟩ := lo_bslice0 (d := d) (ty := ty) (pos := pos) (aft := aft) (g := g) hL ht hd hte h0 hn hf (fun p hp => he p.2 (by simp only [Op.operands]; exact List.mem_map.2 ⟨p, by simpa using hp, rfl⟩)) (w := w)
  rw [hr]
  have hyt := cls_sound _ _ _ hz hy
  have hb : Below w.heap.size w (w.alloc (.cells ys.toArray el)) := (Below.refl _ _).alloc (Nat.le_refl _) _
  have hm0 := hh.mem.below hb
  have hM := frz_ext (M := M) w.heap.size (w.alloc (.cells ys.toArray el))
  refine ⟨frz M w.heap.size (w.alloc (.cells ys.toArray el)), _, hp, h, (hM.low hh.frm.size), hh.below hb hM (frz_ok hm0 _), ?_⟩
  have h0' := Nat.le_of_ble_eq_true h0
  have hn' := Nat.le_of_ble_eq_true hn
  have hnm : n ≤ maxLen := by
    have : n ≤ n * te.size := Nat.le_mul_of_pos_right n h0'
    unfold maxLen; omega
  simp only [RA, RT]
  refine ⟨_, _, ys, rfl, Nat.le_refl _, hnm, h0', hl, fun _ => ⟨_, rfl, fun j x hj => ?_⟩, RTs.mono hM.sub _ _ hyt⟩
  have hadd : (⟨w.heap.size, 0, none⟩ : Addr).add j = ⟨w.heap.size, j, none⟩ := by rw [box_add]; simp
  rw [hadd]
  refine frz_new (mem_fresh hh.mem (Nat.le_refl _)) (Nat.le_refl _) ?_ (hone x (List.mem_of_getElem? hj))
  rw [World.cell?_alloc_new]
  simpa using hj
theorem lo_bslice_own (hL : TabOk P L) {t el : TypeId} {ti te : TI} {n : Nat} {parts : List (Nat × Operand)} {cs : List AV} {ts : List T} (ht : L.look t = some ti) (hd : ti.d = .slice el) (hte : L.look el = some te) (h0 : Nat.ble 1 te.size = true) (hn : Nat.ble (n * te.size) 16777216 = true)
    (hf : fillA (fun i => some (i * te.size, te.size)) ((List.range (n * te.size)).map fun j => .c (.lit (te.zero.getD (j % te.size) undef))) (parts.map fun p => (p.1, ρ p.2)) = some cs) (hz : Rzs [] cs ts) (h : ∀ v, K (.own hp.length v) (hp ++ [.row v el te.size n ts])) : LO P F ⟨d, .buildSlice t n parts.toArray, ty, pos, aft, g⟩ ρ hp K := by
  refine ⟨fun M e w he hh => ?_⟩
  obtain ⟨ys, hr, hy, hone, hl⟩ := lo_bslice0 (d := d) (ty := ty) (pos := pos) (aft := aft) (g := g) hL ht hd hte h0 hn hf (fun p hp => he p.2 (by simp only [Op.operands]; exact List.mem_map.2 ⟨p, by simpa using hp, rfl⟩)) (w := w)
  rw [hr]
  have h0' := Nat.le_of_ble_eq_true h0
  have hn' := Nat.le_of_ble_eq_true hn
  have hnm : n ≤ maxLen := by
    have : n ≤ n * te.size := Nat.le_mul_of_pos_right n h0'
    unfold maxLen; omega
  have hyt := cls_sound _ _ _ hz hy
  have hown : (w.alloc (.cells ys.toArray el)).ownsRow 0 el te.size (.slice (some ⟨w.heap.size, 0, none⟩) n n) n ys :=
    ⟨hl, .inr ⟨w.heap.size, n, ys.toArray, rfl, Nat.zero_le _, heap_alloc_new w _, Nat.le_refl _, hnm, by simpa using hl, by simp [← hl]⟩⟩
  refine ⟨M, _, _, h (.slice (some ⟨w.heap.size, 0, none⟩) n n), Ext.refl _ _, ?_, by simp only [RA]; exact ⟨trivial, rfl⟩⟩
  refine push_row (w' := w.alloc (.cells ys.toArray el)) (x := .row (.slice (some ⟨w.heap.size, 0, none⟩) n n) el te.size n ts) hh rfl rfl rfl (by simp) (fun b hb => Below.heap_alloc _ _ _ hb) (Ext.refl _ _) (fun p v h1 h2 => by rw [h2] at h1; cases h1) ⟨ys, hown, hyt, hone, h0'⟩ (fun b hb => ?_)
  obtain rfl : w.heap.size = b := by simpa [Blk.blk, Value.ownBlock] using hb
  exact ⟨Nat.le_refl _, fun p hp => mem_fresh hh.mem (by omega)⟩
theorem lo_func {f : Fn} {cap : List Operand} (h : K (.fn f (cap.map ρ)) hp) : LO P F ⟨d, .makeFunc f #[] cap.toArray, ty, pos, aft, g⟩ ρ hp K := by
  refine LO.same (fun M e w he hh => ?_) h
  refine ⟨.func f #[] (cap.map e).toArray, by simp [execOp, Instr.makeFunc], ?_⟩
  simp only [RA]
  exact ⟨_, rfl, ev_all cap (fun x hx => he x (by simp [Op.operands, hx]))⟩
end

end Go.Proofs.Ythgackidonocpaa
