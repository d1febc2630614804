/-
  Texts of this proof, part 3: Ab8 Ab9 Ab10.
-/
import Derived.Test.YtgjfiedepfjdcaaQLayoutLays2
import Derived.Laws.IdiomRangeMap
import Derived.Laws.Strings2
import Derived.StillTail
import Derived.WideKeyEntry
namespace Go.Proofs.Ytgjfiedepfjdcaa
open Go.RowKit
/-- parts laid into cells -/
def fillA (pl : Nat → Option (Nat × Nat)) (cs : List AV) : List (Nat × AV) → Option (List AV)
  | [] => some cs
  | (i, v) :: rest =>
    match pl i with
    | none => none
    | some (off, size) => cond (Nat.beq (cellsA v).length size && Nat.ble (off + size) cs.length && allOne (cellsA v)) (fillA pl (spl cs off (cellsA v)) rest) none
theorem foldl_spl : ∀ (vs : List Value) (off k : Nat) (cs : Array Value), (vs.zipIdx k).foldl (fun cs (p : Value × Nat) => cs.setIfInBounds (off + p.2) p.1) cs = (spl cs.toList (off + k) vs).toArray
  | [], off, k, cs => by simp [spl]
  | v :: vs, off, k, cs => by
    simp only [List.zipIdx_cons, List.foldl_cons, spl]
    rw [foldl_spl vs off (k + 1)]
    simp [Nat.add_assoc]
theorem fill_sound {M : Mm} {pl pl' : Nat → Option (Nat × Nat)} (hpl : ∀ i p, pl i = some p → pl' i = some p) {ρ : Operand → AV} {e : Operand → Value} : ∀ {parts : List (Nat × Operand)} {cs cs' : List AV} {xs : List Value}, (∀ p ∈ parts, RA M (ρ p.2) (e p.2)) → RAs M cs xs → OneAll xs → fillA pl cs (parts.map fun p => (p.1, ρ p.2)) = some cs' →
    ∃ ys : List Value, Instr.fill pl' xs.toArray (parts.map fun p => (p.1, e p.2)) = some ys.toArray ∧ RAs M cs' ys ∧ OneAll ys ∧ ys.length = xs.length
  | [], cs, cs', xs, _, hx, h1, hf => by
    simp only [List.map_nil, fillA, Option.some.injEq] at hf
    subst hf
    exact ⟨xs, rfl, hx, h1, rfl⟩
  | (i, o) :: parts, cs, cs', xs, he, hx, h1, hf => by
    simp only [List.map_cons, fillA] at hf
    cases hp : pl i with
    | none => rw [hp] at hf; cases hf
    | some p =>
      obtain ⟨off, size⟩ := p
      rw [hp] at hf
      simp only at hf
      cases hc : (Nat.beq (cellsA (ρ o)).length size && Nat.ble (off + size) cs.length && allOne (cellsA (ρ o))) with
      | false => rw [hc] at hf; cases hf
      | true =>
        rw [hc] at hf
        simp only [cond_true] at hf
        simp only [Bool.and_eq_true] at hc
        obtain ⟨⟨ha, hb⟩, ho⟩ := hc
        have ha := Nat.eq_of_beq_eq_true ha
        have hb := Nat.le_of_ble_eq_true hb
        obtain ⟨hce, hone⟩ := cells_of (he (i, o) (by simp)) ho
        have hl1 := hce.len
        have hl2 := hx.len
        obtain ⟨ys, g1, g2, g3, g4⟩ := fill_sound hpl (fun p hp => he p (List.mem_cons_of_mem _ hp)) (RAs.spl (k := off) hx hce) (spl_one h1 hone) hf
        refine ⟨ys, ?_, g2, g3, by rw [g4, spl_len]⟩
        have hsz : (e o).cells.size = size := by rw [← ha, ← hl1]; simp
        simp only [List.map_cons, Instr.fill, hpl i _ hp]
        have hnot : (decide ((e o).cells.size ≠ size) || decide (off + (e o).cells.size > xs.toArray.size)) = false := by simp; omega
        rw [if_neg (by simpa using hnot)]
        have := foldl_spl (e o).cells.toList off 0 xs.toArray
        simp only [Nat.add_zero] at this
        rw [← Array.foldl_toList, Array.toList_zipIdx]
        rw [this]
        exact g1
section
variable {P : Program} {F : Frm} {L : Tab} {d : Option Tmp} {ty : TypeId} {pos : String} {aft : Array Edge} {g : Option (Nat × Bool)} {ρ : Operand → AV} {hp : List Blk} {K : AV → List Blk → Prop}
theorem RAs.lits {M : Mm} : ∀ l : List Value, RAs M (l.map fun v => .c (.lit v)) l
  | [] => by simp [RAs]
  | v :: l => by simp only [List.map_cons, RAs, RA, RT]; exact ⟨v, l, rfl, rfl, RAs.lits l⟩
theorem mapM_sizes (w : World) : ∀ (fields : List Field), (∀ f ∈ fields, ∃ s, (P.info? f.type).map (·.size) = some s) →
    ∃ l : List (Nat × Nat), (fields.mapM fun f => (do pure (f.offset, ← Go.sizeOf f.type) : Sem (Nat × Nat))).run P w = .ok l w ∧ ∀ (k : Nat) (f : Field) (s : Nat), fields[k]? = some f → (P.info? f.type).map (·.size) = some s → l[k]? = some (f.offset, s)
  | [], _ => ⟨[], rfl, fun k f s h => by simp at h⟩
  | f :: fields, h => by
    obtain ⟨l, h1, h2⟩ := mapM_sizes w fields fun f hf => h f (List.mem_cons_of_mem _ hf)
    obtain ⟨s, hs⟩ := h f (by simp)
    cases hi : P.info? f.type with
    | none => rw [hi] at hs; cases hs
    | some inf =>
      refine ⟨(f.offset, inf.size) :: l, ?_, fun k f' s' hk hs' => ?_⟩
      · simp only [List.mapM_cons, Sem.run_bind, Go.sizeOf, typeInfo, run_program, Result.andThen_ok, hi, Sem.run_pure] at h1 ⊢
        rw [h1]
        rfl
      · cases k with
        | zero =>
          obtain rfl : f = f' := by simpa using hk
          rw [hi] at hs'
          simp only [Option.map_some, Option.some.injEq] at hs'
          simp [hs']
        | succ k => exact h2 k f' s' (by simpa using hk) hs'
theorem flds_all : ∀ {l : List Field} {r : List (Nat × Nat)}, fldsB P l r = true → ∀ f ∈ l, ∃ s, (P.info? f.type).map (·.size) = some s
  | [], [], _, f, hf => by simp at hf
  | x :: l, (o, s) :: r, hb, f, hf => by
    simp only [fldsB, Bool.and_eq_true, beq_iff_eq] at hb
    rcases List.mem_cons.1 hf with rfl | hf
    · exact ⟨s, hb.1.2⟩
    · exact flds_all hb.2 f hf
  | [], _ :: _, hb, _, _ => by cases hb
  | _ :: _, [], hb, _, _ => by cases hb
theorem lo_build (hL : TabOk P L) {t : TypeId} {ti : TI} {fs : List (Nat × Nat)} {parts : List (Nat × Operand)} {cs : List AV} (ht : L.look t = some ti) (hd : ti.d = .struct fs) (hf : fillA (fun i => fs[i]?) (ti.zero.map fun v => .c (.lit v)) (parts.map fun p => (p.1, ρ p.2)) = some cs) (h : K (.agg cs) hp) : LO P F ⟨d, .build t parts.toArray, ty, pos, aft, g⟩ ρ hp K := by
  refine LO.same (fun M e w he hh => ?_) h
  obtain ⟨z, hz, hzc, _, hone⟩ := hL.zero ht
  obtain ⟨dd, h1, h2⟩ := hL.desc ht
  rw [hd] at h2
  cases dd <;> simp [descB] at h2
  rename_i fields
  obtain ⟨pl, hpl1, hpl2⟩ := mapM_sizes w fields.toList (flds_all h2)
  obtain ⟨ys, g1, g2, _, _⟩ := fill_sound (pl' := fun i => pl[i]?) (fun i p hp => by
    obtain ⟨o, s⟩ := p
    obtain ⟨f, h3, h4, h5⟩ := flds_get h2 hp
    rw [hpl2 i f s h3 h5, h4]) (fun p hp => he p.2 (by simp only [Op.operands]; exact List.mem_map.2 ⟨p, by simpa using hp, rfl⟩)) (RAs.lits (M := M) ti.zero) hone hf
  refine ⟨.agg ys.toArray, ?_, by simp only [RA]; exact ⟨ys, rfl, g2⟩⟩
  have hz' : z.cells = ti.zero.toArray := by rw [← hzc]
  have hm : (fields.mapM fun f => (do pure (f.offset, ← Go.sizeOf f.type) : Sem (Nat × Nat))).run P w = .ok pl.toArray w := by
    rw [Array.mapM_eq_mapM_toList, Sem.run_map, hpl1]
    rfl
  simp only [execOp, Instr.build, Sem.run_bind, hz, run_underlying h1, Result.andThen_ok]
  rw [hm]
  simp only [Result.andThen_ok, hz', List.getElem?_toArray]
  simp only [List.map_toArray]
  rw [show (fun x : Nat × Operand => match x with | (i, x) => (i, e x)) = (fun p : Nat × Operand => (p.1, e p.2)) from rfl]
  rw [g1]
  rfl
theorem repl_cells (z : Array Value) (n : Nat) (sz : Nat) (hz : z.size = sz) (h0 : 0 < sz) : (Array.range (n * sz)).map (fun x => z[x % z.size]!) = ((List.range (n * sz)).map fun j => z.toList.getD (j % sz) undef).toArray := by
  apply Array.ext'
  simp only [Array.toList_map, Array.toList_range]
  apply List.map_congr_left
  intro j _
  have : j % sz < z.size := by rw [hz]; exact Nat.mod_lt _ h0
  rw [hz, getElem!_pos z _ this]
  simp [List.getD_eq_getElem?_getD, this]
theorem lo_bslice0 (hL : TabOk P L) {t el : TypeId} {ti te : TI} {n : Nat} {parts : List (Nat × Operand)} {cs : List AV} (ht : L.look t = some ti) (hd : ti.d = .slice el) (hte : L.look el = some te) (h0 : Nat.ble 1 te.size = true) (hn : Nat.ble (n * te.size) 16777216 = true)
    (hf : fillA (fun i => some (i * te.size, te.size)) ((List.range (n * te.size)).map fun j => .c (.lit (te.zero.getD (j % te.size) undef))) (parts.map fun p => (p.1, ρ p.2)) = some cs) {M : Mm} {e : Operand → Value} {w : World} (he : ∀ p ∈ parts, RA M (ρ p.2) (e p.2)) :
    ∃ ys : List Value, (execOp e ⟨d, .buildSlice t n parts.toArray, ty, pos, aft, g⟩).run P w = .ok (.value (.slice (some ⟨w.heap.size, 0, none⟩) n n)) (w.alloc (.cells ys.toArray el)) ∧ RAs M cs ys ∧ OneAll ys ∧ ys.length = n * te.size := by
  obtain ⟨z, hz, hzc, hzs, hone⟩ := hL.zero hte
  have h0' := Nat.le_of_ble_eq_true h0
  have hn' := Nat.le_of_ble_eq_true hn
  have hzl : te.zero.length = te.size := by rw [← hzc, ← hzs]; simp
  have hx0 : RAs M ((List.range (n * te.size)).map fun j => AV.c (.lit (te.zero.getD (j % te.size) undef))) ((List.range (n * te.size)).map fun j => te.zero.getD (j % te.size) undef) := by
    have := RAs.lits (M := M) ((List.range (n * te.size)).map fun j => te.zero.getD (j % te.size) undef)
    simpa [List.map_map, Function.comp_def] using this
  have ho0 : OneAll ((List.range (n * te.size)).map fun j => te.zero.getD (j % te.size) undef) := by
    intro x hx
    simp only [List.mem_map, List.mem_range] at hx
    obtain ⟨j, _, rfl⟩ := hx
    have : j % te.size < te.zero.length := by rw [hzl]; exact Nat.mod_lt _ h0'
    rw [List.getD_eq_getElem?_getD, List.getElem?_eq_getElem this]
    exact hone _ (List.getElem_mem _)
  obtain ⟨ys, g1, g2, g3, g4⟩ := fill_sound (pl' := fun i => some (i * te.size, te.size)) (fun i p hp => hp) he hx0 ho0 hf
  refine ⟨ys, ?_, g2, g3, by rw [g4]; simp⟩
  have hcell : (Array.range (n * te.size)).map (fun x => z.cells[x % z.cells.size]!) = ((List.range (n * te.size)).map fun j => te.zero.getD (j % te.size) undef).toArray := by
    rw [repl_cells z.cells n te.size hzs h0', hzc]
  have hbig : ¬ n * te.size > 2 ^ 24 := by omega
  simp only [execOp, Instr.buildSlice, Sem.run_bind, run_underlying (hL.slice ht hd), Result.andThen_ok, hL.sizeOf hte, if_neg hbig, Sem.run_pure, List.map_toArray]
  rw [show (fun x : Nat × Operand => match x with | (i, x) => (i, e x)) = (fun p : Nat × Operand => (p.1, e p.2)) from rfl]
  by_cases hnz : n * te.size = 0
  · have hr0 : Array.range 0 = #[] := rfl
    rw [hnz] at g1
    simp only [List.range_zero, List.map_nil] at g1
    simp [hnz, hr0, g1, newRow]
  · simp only [hnz, if_false, Sem.run_bind, hz, Sem.run_pure, Result.andThen_ok, hcell, g1]
    simp [newRow]
theorem lo_bslice (hL : TabOk P L) {t el : TypeId} {ti te : TI} {n : Nat} {parts : List (Nat × Operand)} {cs : List AV} {ts : List T} (ht : L.look t = some ti) (hd : ti.d = .slice el) (hte : L.look el = some te) (h0 : Nat.ble 1 te.size = true) (hn : Nat.ble (n * te.size) 16777216 = true)
    (hf : fillA (fun i => some (i * te.size, te.size)) ((List.range (n * te.size)).map fun j => .c (.lit (te.zero.getD (j % te.size) undef))) (parts.map fun p => (p.1, ρ p.2)) = some cs) (hz : Rzs [] cs ts) (h : K (.c (.row n te.size ts)) hp) : LO P F ⟨d, .buildSlice t n parts.toArray, ty, pos, aft, g⟩ ρ hp K := by
  refine ⟨fun M e w he hh => ?_⟩
  obtain ⟨ys, hr, hy, hone, hl⟩ := lo_bslice0 (d := d) (ty := ty) (pos := pos) (aft := aft) (g := g) hL ht hd hte h0 hn hf (fun p hp => he p.2 (by simp only [Op.operands]; exact List.mem_map.2 ⟨p, by simpa using hp, rfl⟩)) (w := w)
  rw [hr]
  have hyt := cls_sound _ _ _ hz hy
  have hb : Below w.heap.size w (w.alloc (.cells ys.toArray el)) := (Below.refl _ _).alloc (Nat.le_refl _) _
  have hm0 := hh.mem.below hb
  have hM := frz_ext (M := M) w.heap.size (w.alloc (.cells ys.toArray el))
  refine ⟨frz M w.heap.size (w.alloc (.cells ys.toArray el)), _, hp, h, (hM.low hh.frm.size), hh.below hb hM (frz_ok hm0 _), ?_⟩
  have h0' := Nat.le_of_ble_eq_true h0
  have hn' := Nat.le_of_ble_eq_true hn
  have hnm : n ≤ maxLen := by
    have : n ≤ n * te.size := Nat.le_mul_of_pos_right n h0'
    unfold maxLen; omega
  simp only [RA, RT]
  refine ⟨_, _, ys, rfl, Nat.le_refl _, hnm, h0', hl, fun _ => ⟨_, rfl, fun j x hj => ?_⟩, RTs.mono hM.sub _ _ hyt⟩
  have hadd : (⟨w.heap.size, 0, none⟩ : Addr).add j = ⟨w.heap.size, j, none⟩ := by rw [box_add]; simp
  rw [hadd]
  refine frz_new (mem_fresh hh.mem (Nat.le_refl _)) (Nat.le_refl _) ?_ (hone x (List.mem_of_getElem? hj))
  rw [World.cell?_alloc_new]
  simpa using hj
theorem lo_bslice_own (hL : TabOk P L) {t el : TypeId} {ti te : TI} {n : Nat} {parts : List (Nat × Operand)} {cs : List AV} {ts : List T} (ht : L.look t = some ti) (hd : ti.d = .slice el) (hte : L.look el = some te) (h0 : Nat.ble 1 te.size = true) (hn : Nat.ble (n * te.size) 16777216 = true)
    (hf : fillA (fun i => some (i * te.size, te.size)) ((List.range (n * te.size)).map fun j => .c (.lit (te.zero.getD (j % te.size) undef))) (parts.map fun p => (p.1, ρ p.2)) = some cs) (hz : Rzs [] cs ts) (h : ∀ v, K (.own hp.length v) (hp ++ [.row v el te.size n ts])) : LO P F ⟨d, .buildSlice t n parts.toArray, ty, pos, aft, g⟩ ρ hp K := by
  refine ⟨fun M e w he hh => ?_⟩
  obtain ⟨ys, hr, hy, hone, hl⟩ := lo_bslice0 (d := d) (ty := ty) (pos := pos) (aft := aft) (g := g) hL ht hd hte h0 hn hf (fun p hp => he p.2 (by simp only [Op.operands]; exact List.mem_map.2 ⟨p, by simpa using hp, rfl⟩)) (w := w)
  rw [hr]
  have h0' := Nat.le_of_ble_eq_true h0
  have hn' := Nat.le_of_ble_eq_true hn
  have hnm : n ≤ maxLen := by
    have : n ≤ n * te.size := Nat.le_mul_of_pos_right n h0'
    unfold maxLen; omega
  have hyt := cls_sound _ _ _ hz hy
  have hown : (w.alloc (.cells ys.toArray el)).ownsRow 0 el te.size (.slice (some ⟨w.heap.size, 0, none⟩) n n) n ys :=
    ⟨hl, .inr ⟨w.heap.size, n, ys.toArray, rfl, Nat.zero_le _, heap_alloc_new w _, Nat.le_refl _, hnm, by simpa using hl, by simp [← hl]⟩⟩
  refine ⟨M, _, _, h (.slice (some ⟨w.heap.size, 0, none⟩) n n), Ext.refl _ _, ?_, by simp only [RA]; exact ⟨trivial, rfl⟩⟩
  refine push_row (w' := w.alloc (.cells ys.toArray el)) (x := .row (.slice (some ⟨w.heap.size, 0, none⟩) n n) el te.size n ts) hh rfl rfl rfl (by simp) (fun b hb => Below.heap_alloc _ _ _ hb) (Ext.refl _ _) (fun p v h1 h2 => by rw [h2] at h1; cases h1) ⟨ys, ownsO_of hown, hyt, hone, h0'⟩ (fun b hb => ?_)
  obtain rfl : w.heap.size = b := by simpa [Blk.blk, Value.ownBlock] using hb
  exact ⟨Nat.le_refl _, fun p hp => mem_fresh hh.mem (by omega)⟩
theorem lo_func {f : Fn} {cap : List Operand} (h : K (.fn f (cap.map ρ)) hp) : LO P F ⟨d, .makeFunc f #[] cap.toArray, ty, pos, aft, g⟩ ρ hp K := by
  refine LO.same (fun M e w he hh => ?_) h
  refine ⟨.func f #[] (cap.map e).toArray, by simp [execOp, Instr.makeFunc], ?_⟩
  simp only [RA]
  exact ⟨_, rfl, ev_all cap (fun x hx => he x (by simp [Op.operands, hx]))⟩
end
end Go.Proofs.Ytgjfiedepfjdcaa
namespace Go.Proofs.Ytgjfiedepfjdcaa
open Go.RowKit
theorem neg_t {b : Bool} (h : b = false) : (!b) = true := by rw [h]; rfl
theorem neg_f {b : Bool} (h : b = true) : (!b) = false := by rw [h]; rfl
def evl {α : Type} : List α → Option (List α)
  | [] => some []
  | a :: l => match evl l with | some r => some (a :: r) | none => none
theorem evl_eq {α : Type} : ∀ {l r : List α}, evl l = some r → r = l
  | [], r, h => by simp only [evl, Option.some.injEq] at h; exact h.symm
  | a :: l, r, h => by
    simp only [evl] at h
    cases hl : evl l with
    | none => rw [hl] at h; cases h
    | some r' =>
      rw [hl] at h
      simp only [Option.some.injEq] at h
      rw [← h, evl_eq hl]
def lenU {α : Type} : List α → Option Nat
  | [] => some 0
  | _ :: l => match lenU l with | some n => some (n + 1) | none => none
theorem lenU_eq {α : Type} : ∀ {l : List α} {n : Nat}, lenU l = some n → n = l.length
  | [], n, h => by simp only [lenU, Option.some.injEq] at h; exact h.symm
  | a :: l, n, h => by
    simp only [lenU] at h
    cases hl : lenU l with
    | none => rw [hl] at h; cases h
    | some m =>
      rw [hl] at h
      simp only [Option.some.injEq] at h
      rw [← h, lenU_eq hl]; rfl
section
variable {P : Program} {F : Frm} {L : Tab} {d : Option Tmp} {ty : TypeId} {pos : String} {aft : Array Edge} {g : Option (Nat × Bool)} {ρ : Operand → AV} {hp : List Blk} {K : AV → List Blk → Prop}
theorem v_alloc (hL : TabOk P L) {t : TypeId} {ti : TI} {cs : List AV} {n : Nat} {hp' : Nat → List Blk} (ht : L.look t = some ti) (hz : evl (ti.zero.map fun v => AV.c (.lit v)) = some cs) (hn : lenU hp = some n) (hf : ∀ b, evl (hp ++ [.box b t cs]) = some (hp' b)) (h : ∀ b, K (.ptr n b 0) (hp' b)) : LO P F ⟨d, .alloc t, ty, pos, aft, g⟩ ρ hp K :=
  lo_alloc hL ht fun b => by rw [← evl_eq hz, ← evl_eq (hf b), ← lenU_eq hn]; exact h b
theorem v_box {t : TypeId} {x : Operand} {v : AV} {cs : List AV} {n : Nat} {hp' : Nat → List Blk} (hv : ρ x = v) (hc : evl (cellsA v) = some cs) (h1 : allOne cs = true) (hn : lenU hp = some n) (hf : ∀ b, evl (hp ++ [.box b t cs]) = some (hp' b)) (h : ∀ b, K (.ptr n b 0) (hp' b)) : LO P F ⟨d, .box t x, ty, pos, aft, g⟩ ρ hp K :=
  lo_box hv (by rw [← evl_eq hc]; exact h1) fun b => by rw [← evl_eq hc, ← evl_eq (hf b), ← lenU_eq hn]; exact h b
theorem v_store (hL : TabOk P L) {t : TypeId} {ti : TI} {x y : Operand} {i b off : Nat} {tb : TypeId} {cs vs cs' : List AV} {v : AV} {hp' : List Blk} (hx : ρ x = .ptr i b off) (hi : hp[i]? = some (.box b tb cs)) (hv : ρ y = v) (ht : L.look t = some ti) (hc : evl (cellsA v) = some vs) (h1 : allOne vs = true) (hl : lenU vs = some ti.size) (hb : Nat.ble (off + ti.size) cs.length = true) (hs : evl (spl cs off vs) = some cs') (hf : evl (hp.set i (.box b tb cs')) = some hp')
    (h : K (.c (.lit undef)) hp') : LO P F ⟨d, .store t x y, ty, pos, aft, g⟩ ρ hp K :=
  lo_store hL hx hi hv ht (by rw [← evl_eq hc]; exact h1) (by rw [← evl_eq hc, ← lenU_eq hl]) hb (by rw [← evl_eq hc, ← evl_eq hs, ← evl_eq hf]; exact h)
theorem v_load_box (hL : TabOk P L) {t : TypeId} {ti : TI} {x : Operand} {i b off : Nat} {tb : TypeId} {cs l : List AV} (hx : ρ x = .ptr i b off) (hi : hp[i]? = some (.box b tb cs)) (ht : L.look t = some ti) (ha : ti.agg = true) (hl : Nat.ble (off + ti.size) cs.length = true) (he : evl ((cs.drop off).take ti.size) = some l) (h : K (.agg l) hp) : LO P F ⟨d, .load t x, ty, pos, aft, g⟩ ρ hp K :=
  lo_load_box hL hx hi ht ha hl (by rw [← evl_eq he]; exact h)
theorem v_app (hL : TabOk P L) {t el : TypeId} {ti te : TI} {x y : Operand} {i n m sz : Nat} {v : Value} {cs ts : List T} {hp' : Value → List Blk} (hx : ρ x = .own i v) (hi : hp[i]? = some (.row v el sz n cs)) (hy : ρ y = .c (.row m sz ts)) (ht : L.look t = some ti) (hd : ti.d = .slice el) (hte : L.look el = some te) (hsz : te.size = sz) (hf : ∀ v', evl (hp.set i (.row v' el sz (n + m) (cs ++ ts))) = some (hp' v')) (h63 : n + m ≤ maxLen) (hbytes : (n + m) * te.bytes ≤ 140737488355328)
    (h : ∀ v', K (.own i v') (hp' v')) : LO P F ⟨d, .call { callee := .builtin .append, args := #[x, y], argTypes := #[t, t] }, ty, pos, aft, g⟩ ρ hp K :=
  lo_app hL hx hi hy ht hd hte hsz h63 hbytes fun v' => by rw [← evl_eq (hf v')]; exact h v'
theorem v_build (hL : TabOk P L) {t : TypeId} {ti : TI} {fs : List (Nat × Nat)} {parts : List (Nat × Operand)} {cs cs' : List AV} (ht : L.look t = some ti) (hd : ti.d = .struct fs) (hf : fillA (fun i => fs[i]?) (ti.zero.map fun v => .c (.lit v)) (parts.map fun p => (p.1, ρ p.2)) = some cs) (he : evl cs = some cs') (h : K (.agg cs') hp) : LO P F ⟨d, .build t parts.toArray, ty, pos, aft, g⟩ ρ hp K :=
  lo_build hL ht hd hf (by rw [← evl_eq he]; exact h)
theorem v_bslice (hL : TabOk P L) {t el : TypeId} {ti te : TI} {n : Nat} {parts : List (Nat × Operand)} {cs cs' : List AV} {ts : List T} (ht : L.look t = some ti) (hd : ti.d = .slice el) (hte : L.look el = some te) (h0 : Nat.ble 1 te.size = true) (hn : Nat.ble (n * te.size) 16777216 = true)
    (hf : fillA (fun i => some (i * te.size, te.size)) ((List.range (n * te.size)).map fun j => .c (.lit (te.zero.getD (j % te.size) undef))) (parts.map fun p => (p.1, ρ p.2)) = some cs) (he : evl cs = some cs') (hz : Rzs [] cs' ts) (h : K (.c (.row n te.size ts)) hp) : LO P F ⟨d, .buildSlice t n parts.toArray, ty, pos, aft, g⟩ ρ hp K :=
  lo_bslice hL ht hd hte h0 hn hf (by rw [← evl_eq he]; exact hz) h
theorem v_bslice_own (hL : TabOk P L) {t el : TypeId} {ti te : TI} {n k : Nat} {parts : List (Nat × Operand)} {cs cs' : List AV} {ts : List T} {hp' : Value → List Blk} (ht : L.look t = some ti) (hd : ti.d = .slice el) (hte : L.look el = some te) (h0 : Nat.ble 1 te.size = true) (hn : Nat.ble (n * te.size) 16777216 = true)
    (hf : fillA (fun i => some (i * te.size, te.size)) ((List.range (n * te.size)).map fun j => .c (.lit (te.zero.getD (j % te.size) undef))) (parts.map fun p => (p.1, ρ p.2)) = some cs) (he : evl cs = some cs') (hz : Rzs [] cs' ts) (hk : lenU hp = some k) (hq : ∀ v, evl (hp ++ [.row v el te.size n ts]) = some (hp' v)) (h : ∀ v, K (.own k v) (hp' v)) : LO P F ⟨d, .buildSlice t n parts.toArray, ty, pos, aft, g⟩ ρ hp K :=
  lo_bslice_own hL ht hd hte h0 hn hf (by rw [← evl_eq he]; exact hz) fun v => by rw [← evl_eq (hq v), ← lenU_eq hk]; exact h v
theorem v_func {f : Fn} {cap : List Operand} {l : List AV} (he : evl (cap.map ρ) = some l) (h : K (.fn f l) hp) : LO P F ⟨d, .makeFunc f #[] cap.toArray, ty, pos, aft, g⟩ ρ hp K :=
  lo_func (by rw [← evl_eq he]; exact h)
/-- a slot with nil becomes a row of the call's own -/
theorem wk_own {σ : AS} (s : Nat) (e : TypeId) (sz : Nat) (h0 : 0 < sz) {k : Nat} (hs : σ.tmps s = .c (.lit (.slice none 0 0))) (_hn : lenU σ.hp = some k) {hp' : List Blk} (hf : evl (σ.hp ++ [.row (.slice none 0 0) e sz 0 []]) = some hp') (hN : Nat.blt s σ.N = true) : Wk F σ (σ.st (some s) (.own k (.slice none 0 0)) hp') := by
  intro M a w hr
  have hh : HeapOk F M hp' w := by
    rw [evl_eq hf]
    refine push_row hr.heap rfl rfl rfl (Nat.le_refl _) (fun _ _ => rfl) (Ext.refl _ _) (fun p v h1 h2 => by rw [h2] at h1; cases h1) ⟨[], ownsO_nil _ _ _, by simp only [RTs], fun x hx => by simp at hx, h0⟩ (fun b hb => by simp [Blk.blk, Value.ownBlock] at hb)
  refine ⟨M, fun i => ?_, hr.size, hr.defers, hh⟩
  simp only [AS.st]
  cases hc : Nat.beq i s with
  | false => simp only [Bool.false_and, cond_false]; exact hr.tmps i
  | true =>
    have := Nat.eq_of_beq_eq_true hc
    subst this
    have h1 := hr.tmps i
    rw [hs] at h1
    simp only [RA, RT] at h1
    rw [hN]
    simp only [Bool.and_self, cond_true, RA]
    exact ⟨h1, rfl⟩
/-- a cell of a variable with nil becomes a row of the call's own -/
theorem wk_own_cell {σ : AS} (i j : Nat) (e : TypeId) (sz : Nat) (h0 : 0 < sz) {k b : Nat} {t : TypeId} {cs : List AV} (hi : σ.hp[i]? = some (.box b t cs)) (hj : cs[j]? = some (.c (.lit (.slice none 0 0)))) (_hn : lenU σ.hp = some k) {hp' : List Blk} (hf : evl (σ.hp.set i (.box b t (cs.set j (.own k (.slice none 0 0)))) ++ [.row (.slice none 0 0) e sz 0 []]) = some hp') : Wk F σ ⟨σ.tmps, hp', σ.N⟩ := by
  intro M a w hr
  have hlt : i < σ.hp.length := (List.getElem?_eq_some_iff.1 hi).1
  have h1 : HeapOk F M (σ.hp.set i (.box b t (cs.set j (.own k (.slice none 0 0))))) w := by
    refine hr.heap.step i rfl rfl rfl (Nat.le_refl _) (fun _ _ _ => rfl) (Ext.refl _ _) (fun p v h1 h2 => by rw [h2] at h1; cases h1) (fun m hm => by rw [List.getElem?_set_ne (Ne.symm hm)]) (fun x' hx' => ?_)
    rw [List.getElem?_set_self hlt] at hx'
    obtain rfl : Blk.box b t (cs.set j (.own k (.slice none 0 0))) = x' := by injection hx'
    obtain ⟨xs, g1, g2, g3⟩ := hr.heap.at_ i _ hi
    refine ⟨⟨xs, g1, ?_, g3⟩, fun b' hb' => .inl ⟨_, hi, hb'⟩⟩
    obtain ⟨x, hx, hxr⟩ := g2.get hj
    simp only [RA, RT] at hxr
    have : RAs M (cs.set j (.own k (.slice none 0 0))) (xs.set j (.slice none 0 0)) := RAs.set j g2 (by simp only [RA]; exact ⟨trivial, rfl⟩)
    rwa [show xs.set j (.slice none 0 0) = xs from by
      rw [← hxr]
      have hjl : j < xs.length := (List.getElem?_eq_some_iff.1 hx).1
      have : xs[j] = x := by rw [List.getElem?_eq_getElem hjl] at hx; injection hx
      rw [← this]; exact List.set_getElem_self hjl] at this
  have hh : HeapOk F M hp' w := by
    rw [evl_eq hf]
    exact push_row h1 rfl rfl rfl (Nat.le_refl _) (fun _ _ => rfl) (Ext.refl _ _) (fun p v h1 h2 => by rw [h2] at h1; cases h1) ⟨[], ownsO_nil _ _ _, by simp only [RTs], fun x hx => by simp at hx, h0⟩ (fun b hb => by simp [Blk.blk, Value.ownBlock] at hb)
  exact ⟨M, hr.tmps, hr.size, hr.defers, hh⟩
end
def upd (N : Nat) (d : Tmp) (v : AV) (τ : Nat → AV) : Nat → AV := fun i => cond (Nat.beq i d && Nat.blt d N) v (τ i)
def evT (τ : Nat → AV) : Operand → AV
  | .tmp t => τ t
  | .const v => .c (.lit v)
  | .global g => .c (.lit (.pointer (some ⟨g, 0, none⟩)))
  | .func f => .fn (.func f) []
def initT (N : Nat) (args : List AV) : Nat → AV := fun i => cond (Nat.blt i N) (args.getD i (.c (.lit undef))) (.c (.lit undef))
def atT (τ : Nat → AV) (W : List Nat) (l : List (Nat × AV)) : Nat → AV := fun i => match lkp i l with | some v => v | none => cond (memB i W) .junk (τ i)
theorem evT_eq {τ : Nat → AV} {hp : List Blk} {N : Nat} : (AS.mk τ hp N).ev = evT τ := by funext x; cases x <;> rfl
section
variable {P : Program} {F : Frm} {L : Tab} {ops : Array Oper} {K : AS → Prop} {τ : Nat → AV} {hp : List Blk} {N : Nat} {rest : List Oper} {op : Op} {ty : TypeId} {pos : String} {aft : Array Edge} {g : Nat} {b c : Bool} {d t : Tmp}
theorem x_op (h : LO P F ⟨some t, op, ty, pos, aft, none⟩ (evT τ) hp fun v hp' => AL P F ops K rest ⟨upd N t v τ, hp', N⟩) : AL P F ops K (⟨some t, op, ty, pos, aft, none⟩ :: rest) ⟨τ, hp, N⟩ :=
  al_op (by rw [evT_eq]; exact h)
theorem x_opn (h : LO P F ⟨none, op, ty, pos, aft, none⟩ (evT τ) hp fun _ hp' => AL P F ops K rest ⟨τ, hp', N⟩) : AL P F ops K (⟨none, op, ty, pos, aft, none⟩ :: rest) ⟨τ, hp, N⟩ :=
  al_op (by rw [evT_eq]; exact h)
theorem x_yes (hd : (ops[g]?).bind (·.dst) = some d) (hv : τ d = .c (.lit (.bool c))) (hc : c = b)
    (h : LO P F ⟨some t, op, ty, pos, aft, some (g, b)⟩ (evT τ) hp fun v hp' => AL P F ops K rest ⟨upd N t v τ, hp', N⟩) : AL P F ops K (⟨some t, op, ty, pos, aft, some (g, b)⟩ :: rest) ⟨τ, hp, N⟩ := by
  subst hc
  exact al_do d hd hv (by rw [evT_eq]; exact h)
theorem x_yesn (hd : (ops[g]?).bind (·.dst) = some d) (hv : τ d = .c (.lit (.bool c))) (hc : c = b)
    (h : LO P F ⟨none, op, ty, pos, aft, some (g, b)⟩ (evT τ) hp fun _ hp' => AL P F ops K rest ⟨τ, hp', N⟩) : AL P F ops K (⟨none, op, ty, pos, aft, some (g, b)⟩ :: rest) ⟨τ, hp, N⟩ := by
  subst hc
  exact al_do d hd hv (by rw [evT_eq]; exact h)
theorem x_no (hd : (ops[g]?).bind (·.dst) = some d) (hv : τ d = .c (.lit (.bool c))) (hc : c = !b)
    (h : AL P F ops K rest ⟨upd N t (.c (.lit undef)) τ, hp, N⟩) : AL P F ops K (⟨some t, op, ty, pos, aft, some (g, b)⟩ :: rest) ⟨τ, hp, N⟩ := by
  subst hc
  exact al_not d hd hv h
theorem x_non (hd : (ops[g]?).bind (·.dst) = some d) (hv : τ d = .c (.lit (.bool c))) (hc : c = !b)
    (h : AL P F ops K rest ⟨τ, hp, N⟩) : AL P F ops K (⟨none, op, ty, pos, aft, some (g, b)⟩ :: rest) ⟨τ, hp, N⟩ := by
  subst hc
  exact al_not d hd hv h
theorem x_un (hd : (ops[g]?).bind (·.dst) = some d) (hv : τ d = .c (.lit undef))
    (h : AL P F ops K rest ⟨upd N t (.c (.lit undef)) τ, hp, N⟩) : AL P F ops K (⟨some t, op, ty, pos, aft, some (g, b)⟩ :: rest) ⟨τ, hp, N⟩ := al_un d hd hv h
theorem x_unn (hd : (ops[g]?).bind (·.dst) = some d) (hv : τ d = .c (.lit undef))
    (h : AL P F ops K rest ⟨τ, hp, N⟩) : AL P F ops K (⟨none, op, ty, pos, aft, some (g, b)⟩ :: rest) ⟨τ, hp, N⟩ := al_un d hd hv h
end
section
variable {P : Program} {F : Frm} {d : Option Tmp} {ty : TypeId} {pos : String} {aft : Array Edge} {g : Option (Nat × Bool)} {ρ : Operand → AV} {hp : List Blk} {K : AV → List Blk → Prop}
theorem v_pick_t {c x y : Operand} {v : AV} {b : Bool} (hc : ρ c = .c (.lit (.bool b))) (hb : b = true) (hv : ρ x = v) (h : K v hp) : LO P F ⟨d, .pick c x y, ty, pos, aft, g⟩ ρ hp K := by
  subst hb; exact lo_pick_t hc hv h
theorem v_pick_f {c x y : Operand} {v : AV} {b : Bool} (hc : ρ c = .c (.lit (.bool b))) (hb : b = false) (hv : ρ y = v) (h : K v hp) : LO P F ⟨d, .pick c x y, ty, pos, aft, g⟩ ρ hp K := by
  subst hb; exact lo_pick_f hc hv h
end
section
variable {P : Program} {F : Frm} {L : Tab} {τ τ' : Nat → AV} {hp : List Blk} {N : Nat} {Q : Exit → AS → Prop}
theorem x_cond {c : Operand} {x y : Code} {t : Bool} (hc : evT τ c = .c (.lit (.bool t))) (ht : t = true → AC P F x Q ⟨τ, hp, N⟩) (hf : t = false → AC P F y Q ⟨τ, hp, N⟩) : AC P F (.cond c x y) Q ⟨τ, hp, N⟩ := ac_cond (by rw [evT_eq]; exact hc) ht hf
theorem x_t {c : Operand} {x y : Code} {t : Bool} (hc : evT τ c = .c (.lit (.bool t))) (ht : t = true) (h : AC P F x Q ⟨τ, hp, N⟩) : AC P F (.cond c x y) Q ⟨τ, hp, N⟩ := x_cond hc (fun _ => h) (fun h => by rw [ht] at h; cases h)
theorem x_f {c : Operand} {x y : Code} {t : Bool} (hc : evT τ c = .c (.lit (.bool t))) (ht : t = false) (h : AC P F y Q ⟨τ, hp, N⟩) : AC P F (.cond c x y) Q ⟨τ, hp, N⟩ := x_cond hc (fun h => by rw [ht] at h; cases h) (fun _ => h)
/-- outside W the slots are alike -/
def AgT (W : List Nat) (τ τ' : Nat → AV) : Prop := ∀ i, memB i W = false → τ i = τ' i
def HasT (τ : Nat → AV) : List (Nat × AV) → Prop
  | [] => True
  | (d, v) :: l => τ d = v ∧ HasT τ l
theorem ag_refl {W : List Nat} {τ : Nat → AV} : AgT W τ τ := fun _ _ => rfl
theorem ag_upd {W : List Nat} {N : Nat} {d : Tmp} {v : AV} (hd : memB d W = true) (h : AgT W τ τ') : AgT W (upd N d v τ) τ' := by
  have := agree_st (v := v) (hp := []) (σ := ⟨τ, [], N⟩) (τ := ⟨τ', [], N⟩) hd ⟨rfl, h⟩
  exact this.2
theorem ag_at {W W' : List Nat} {l : List (Nat × AV)} (hW : (W'.all fun d => memB d W) = true) (hl : (l.all fun p => memB p.1 W) = true) (h : AgT W τ τ') : AgT W (atT τ W' l) τ' := by
  have := agree_at (hp := []) (σ := ⟨τ, [], 0⟩) (τ := ⟨τ', [], 0⟩) hW hl ⟨rfl, h⟩
  exact this.2
theorem hasT {τ : Nat → AV} {hp : List Blk} {N : Nat} : ∀ {l : List (Nat × AV)}, HasT τ l → Has ⟨τ, hp, N⟩ l
  | [], _ => trivial
  | (_, _) :: _, h => ⟨h.1, hasT h.2⟩
/-- to a loop's head: the slots of l hold these, those of W else are forgotten -/
theorem x_wk {W : List Nat} {l : List (Nat × AV)} {hp' : List Blk} (hl : HasT τ l) (hh : hp = hp') (h : AgT W τ τ') : Wk F ⟨τ, hp, N⟩ ⟨atT τ' W l, hp', N⟩ :=
  wk_at (σ := ⟨τ, hp, N⟩) (τ := ⟨τ', hp, N⟩) (hasT hl) hh ⟨rfl, h⟩
/-- the same, blocks at the end let go -/
theorem x_wkd {W : List Nat} {l : List (Nat × AV)} {hp' : List Blk} (k : Nat) (hl : HasT τ l) (hh : evl (hp.take k) = some hp') (h : AgT W τ τ') : Wk F ⟨τ, hp, N⟩ ⟨atT τ' W l, hp', N⟩ :=
  (wk_drop (σ := ⟨τ, hp, N⟩) k).trans (x_wk hl (evl_eq hh).symm h)
/-- a loop: 'slots' hold these at its head, the other slots of W are forgotten; the blocks are these -/
theorem x_loop {c : Code} {A : Type} (W : List Nat) (slots : A → List (Nat × AV)) (hps : A → List Blk) (I : A → Prop) (μ : A → Nat) (x₀ : A) (h₀ : I x₀) (hl : HasT τ (slots x₀)) (hh : hp = hps x₀)
    (round : ∀ x, I x → AC P F c (thenA (fun σ' => ∃ y, I y ∧ μ y < μ x ∧ Wk F σ' ⟨atT τ W (slots y), hps y, N⟩) Q) ⟨atT τ W (slots x), hps x, N⟩) : AC P F (.loop c) Q ⟨τ, hp, N⟩ :=
  ac_loop (fun x => ⟨atT τ W (slots x), hps x, N⟩) I μ x₀ h₀ (x_wk hl hh ag_refl) round
/-- a slot with nil becomes a row of the call's own -/
theorem x_own {c : Code} (s : Nat) (e : TypeId) (sz : Nat) (h0 : Nat.ble 1 sz = true) {k : Nat} (hs : τ s = .c (.lit (.slice none 0 0))) (hn : lenU hp = some k) {hp' : List Blk} (hf : evl (hp ++ [.row (.slice none 0 0) e sz 0 []]) = some hp') (hN : Nat.blt s N = true) (h : AC P F c Q ⟨upd N s (.own k (.slice none 0 0)) τ, hp', N⟩) : AC P F c Q ⟨τ, hp, N⟩ :=
  ac_wk (wk_own (σ := ⟨τ, hp, N⟩) s e sz (Nat.le_of_ble_eq_true h0) hs hn hf hN) h
theorem x_own_cell {c : Code} (i j : Nat) (e : TypeId) (sz : Nat) (h0 : Nat.ble 1 sz = true) {k b : Nat} {t : TypeId} {cs cs' : List AV} (hi : hp[i]? = some (.box b t cs)) (hj : cs[j]? = some (.c (.lit (.slice none 0 0)))) (hn : lenU hp = some k) (hc : evl (cs.set j (.own k (.slice none 0 0))) = some cs') {hp' : List Blk} (hf : evl (hp.set i (.box b t cs') ++ [.row (.slice none 0 0) e sz 0 []]) = some hp') (h : AC P F c Q ⟨τ, hp', N⟩) : AC P F c Q ⟨τ, hp, N⟩ :=
  ac_wk (wk_own_cell (σ := ⟨τ, hp, N⟩) i j e sz (Nat.le_of_ble_eq_true h0) hi hj hn (by rw [← evl_eq hc]; exact hf)) h
theorem outs_nil {σ : AS} : Outs L σ [] [] := by simp only [Outs]
theorem outs_cons {σ : AS} {r : ResultVar} {rs : List ResultVar} {t : T} {ts : List T} (h : Out1 L σ r t) (h' : Outs L σ rs ts) : Outs L σ (r :: rs) (t :: ts) := by simp only [Outs]; exact ⟨t, ts, rfl, h, h'⟩
theorem out_tmp {i : Tmp} {v : AV} {t : T} (hv : τ i = v) (h : Rz hp v t) : Out1 L ⟨τ, hp, N⟩ (.tmp i) t := by simp only [Out1]; rw [hv]; exact h
theorem out_agg {a : Tmp} {ty tb : TypeId} {i b off : Nat} {cs l : List AV} {ti : TI} {t : T} (h1 : τ a = .ptr i b off) (h2 : hp[i]? = some (.box b tb cs)) (h3 : L.look ty = some ti) (ha : ti.agg = true) (hl : Nat.ble (off + ti.size) cs.length = true) (he : evl ((cs.drop off).take ti.size) = some l) (h : Rz hp (.agg l) t) : Out1 L ⟨τ, hp, N⟩ (.cell a ty) t := by
  simp only [Out1]
  refine ⟨i, b, off, tb, cs, ti, h1, h2, h3, ?_⟩
  rw [ha]
  exact ⟨Nat.le_of_ble_eq_true hl, by rw [← evl_eq he]; exact h⟩
theorem out_one {a : Tmp} {ty tb : TypeId} {i b off : Nat} {cs : List AV} {ti : TI} {v : AV} {t : T} (h1 : τ a = .ptr i b off) (h2 : hp[i]? = some (.box b tb cs)) (h3 : L.look ty = some ti) (ha : ti.agg = false) (hv : cs[off]? = some v) (h : Rz hp v t) : Out1 L ⟨τ, hp, N⟩ (.cell a ty) t := by
  simp only [Out1]
  refine ⟨i, b, off, tb, cs, ti, h1, h2, h3, ?_⟩
  rw [ha]
  exact ⟨v, hv, h⟩
theorem fin_n {σ : AS} {res : List ResultVar} {R : T → Prop} {ts : List T} (h : Outs L σ res ts) (hR : R (outT ts)) : Fin L res R .normal σ := ⟨⟨.inl rfl, ts, h, hR⟩⟩
theorem fin_r {σ : AS} {res : List ResultVar} {R : T → Prop} {ts : List T} (h : Outs L σ res ts) (hR : R (outT ts)) : Fin L res R .ret σ := ⟨⟨.inr rfl, ts, h, hR⟩⟩
theorem af_enter {f : FuncId} {fn : Func} {c : Code} {args : List T} {asq : List AV} {R : T → Prop} {N : Nat} {res : List ResultVar} (hL : TabOk P L) (hf : P.funcs[f]? = some fn) (hNt : fn.ntmps = N) (hres : fn.results = res.toArray) (hb : fn.body = some c) (hn : (fn.name == "runtime.NumGoroutine") = false) (ha : evl (args.map .c) = some asq) (hN : Nat.ble asq.length N = true)
    (h : ∀ F, (∀ b, ¬ F.X b) → AC P F c (Fin L res R) ⟨initT N asq, [], N⟩) : AF P f args R := by
  refine af_of hL hf hb hn ?_ fun F hX => ?_
  · have := Nat.le_of_ble_eq_true hN
    rw [evl_eq ha] at this
    rw [hNt]; simpa using this
  · rw [hNt, hres, ← evl_eq ha]; exact h F hX
end
section
variable {F : Frm} {τ : Nat → AV} {hp : List Blk} {N : Nat}
def frB (M : Mm) (g : Option Nat) (w : World) : Mm := fun p =>
  match M p with
  | some v => some v
  | none => if g = some p.block then (w.cell? p).bind fun v => if v.oneCell' = true then some v else none else none
theorem frB_sub (M : Mm) (g : Option Nat) (w : World) : Sub M (frB M g w) := fun p v h => by simp [frB, h]
theorem frB_new {M : Mm} {g : Option Nat} {w : World} {p : Addr} {v : Value} (hp : frB M g w p = some v) (hn : M p = none) : g = some p.block ∧ w.cell? p = some v ∧ v.oneCell' = true := by
  unfold frB at hp
  rw [hn] at hp
  simp only at hp
  split at hp
  · rename_i hg
    refine ⟨hg, ?_⟩
    cases hc : w.cell? p with
    | none => rw [hc] at hp; simp at hp
    | some u =>
      rw [hc] at hp
      simp only [Option.bind_some] at hp
      split at hp
      · injection hp with hp; subst hp; exact ⟨rfl, by assumption⟩
      · cases hp
  · cases hp
theorem heap_frz {M : Mm} {w : World} (hh : HeapOk F M hp w) {i : Nat} {v : Value} {e : TypeId} {sz n : Nat} {ts : List T} (hi : hp[i]? = some (.row v e sz n ts)) :
    HeapOk F (frB M v.ownBlock w) (hp.set i .dead) w ∧ RT (frB M v.ownBlock w) (.row n sz ts) v := by
  have hsub := frB_sub M v.ownBlock w
  have hlt : i < hp.length := (List.getElem?_eq_some_iff.1 hi).1
  have hget : ∀ (j : Nat) (x : Blk), (hp.set i .dead)[j]? = some x → (j = i ∧ x = .dead) ∨ (j ≠ i ∧ hp[j]? = some x) := by
    intro j x hx
    by_cases hj : j = i
    · subst hj
      rw [List.getElem?_set_self hlt] at hx
      exact .inl ⟨rfl, by injection hx with hx; exact hx.symm⟩
    · rw [List.getElem?_set_ne (Ne.symm hj)] at hx
      exact .inr ⟨hj, hx⟩
  refine ⟨⟨?_, ?_, hh.frm, ?_, ?_, ?_⟩, ?_⟩
  · intro p u hp
    cases hc : M p with
    | none => exact (frB_new hp hc).2
    | some u' =>
      have := hsub p u' hc
      rw [hp] at this
      obtain rfl : u = u' := by injection this
      exact hh.mem p u hc
  · refine ⟨fun p u hp => hsub p u (hh.ext.1 p u hp), fun p u hp => ?_⟩
    cases hc : M p with
    | none =>
      obtain ⟨hg, _⟩ := frB_new hp hc
      exact .inr (hh.out i _ p.block hi hg).1
    | some u' =>
      have := hsub p u' hc
      rw [hp] at this
      obtain rfl : u = u' := by injection this
      exact hh.ext.2 p u hc
  · intro j x hx
    rcases hget j x hx with ⟨_, rfl⟩ | ⟨_, hx⟩
    · trivial
    · exact (hh.at_ j x hx).keep hsub fun _ _ _ => rfl
  · intro j k x y b hx hy hxb hyb
    rcases hget j x hx with ⟨_, rfl⟩ | ⟨_, hx⟩
    · simp [Blk.blk] at hxb
    · rcases hget k y hy with ⟨_, rfl⟩ | ⟨_, hy⟩
      · simp [Blk.blk] at hyb
      · exact hh.sep j k x y b hx hy hxb hyb
  · intro j x b hx hxb
    rcases hget j x hx with ⟨_, rfl⟩ | ⟨hj, hx⟩
    · simp [Blk.blk] at hxb
    · obtain ⟨h1, h2⟩ := hh.out j x b hx hxb
      refine ⟨h1, fun p hp => ?_⟩
      cases hc : frB M v.ownBlock w p with
      | none => rfl
      | some u =>
        obtain ⟨hg, _⟩ := frB_new hc (h2 p hp)
        exact absurd (hh.sep j i x _ b hx hi hxb (by rw [← hp]; exact hg)) hj
  · obtain ⟨xs, ho, hx, h1, hsz⟩ := hh.at_ i _ hi
    obtain ⟨A, c, rfl, hnc, hcm⟩ := ownO_shape ho
    simp only [RT]
    refine ⟨A, c, xs, rfl, hnc, Nat.le_trans hnc hcm, hsz, ho.1, fun hn => ?_, RTs.mono hsub _ _ hx⟩
    obtain ⟨ad, rfl⟩ := ho.some_ hn
    · refine ⟨_, rfl, fun j x hj => ?_⟩
      have hn : M (Addr.add ad j) = none := (hh.out i _ ad.block hi rfl).2 _ (by rw [add_block])
      have hc := ho.cells j x hj
      simp [frB, hn, Value.ownBlock, add_block, hc, h1 x (List.mem_of_getElem? hj)]
end
theorem flat_at {α : Type} (f : α → List T) (sz : Nat) (hf : ∀ a, (f a).length = sz) : ∀ {l : List α} {k : Nat} {x : α}, l[k]? = some x → ((l.flatMap f).drop (k * sz)).take sz = f x
  | [], _, _, h => by simp at h
  | a :: l, 0, x, h => by
    obtain rfl : a = x := by simpa using h
    rw [List.flatMap_cons, Nat.zero_mul, List.drop_zero, ← hf a, List.take_left]
  | a :: l, k + 1, x, h => by
    rw [List.flatMap_cons, List.drop_append, List.drop_eq_nil_of_le (by rw [hf, Nat.add_mul]; omega), List.nil_append, hf, show (k + 1) * sz - sz = k * sz by rw [Nat.add_mul]; omega]
    exact flat_at f sz hf (by simpa using h)
theorem flat_get {α : Type} (f : α → List T) (sz : Nat) (hf : ∀ a, (f a).length = sz) {l : List α} {k j : Nat} {x : α} (hk : l[k]? = some x) (hj : j < sz) : (l.flatMap f)[k * sz + j]? = (f x)[j]? := by
  rw [← flat_at f sz hf hk, List.getElem?_take, if_pos hj, List.getElem?_drop]
end Go.Proofs.Ytgjfiedepfjdcaa
namespace Go.Proofs.Ytgjfiedepfjdcaa
open Go.RowKit
section
variable {P : Program} {F : Frm} {ops : Array Oper} {md : Region.Mode} {N : Nat} {cls : Nat → Nat}
def updO (N : Nat) (d : Option Tmp) (v : AV) (τ : Nat → AV) : Nat → AV := match d with | none => τ | some d => upd N d v τ
def det (v : AV) (hp : List Blk) (v' : AV) (hp' : List Blk) : Prop := v' = v ∧ hp' = hp
/-- the guard lets it be carried out, or not -/
def GYes (ops : Array Oper) (τ : Nat → AV) (o : Oper) : Prop :=
  match o.guard with
  | none => True
  | some (g, b) => ∃ d, (ops[g]?).bind (·.dst) = some d ∧ τ d = .c (.lit (.bool b))
def GNo (ops : Array Oper) (τ : Nat → AV) (o : Oper) : Prop :=
  match o.guard with
  | none => False
  | some (g, b) => ∃ d, (ops[g]?).bind (·.dst) = some d ∧ ((∃ c, τ d = .c (.lit (.bool c)) ∧ c = !b) ∨ τ d = .c (.lit undef))
/-- what a writing operation (2), or one that makes a variable (3), does to the blocks -/
def Grows (k : Nat) (hp hp' : List Blk) : Prop := k = 2 ∨ ∃ y, hp' = hp ++ y
/-- what a looking operation yields -/
def YA (P : Program) (F : Frm) (ops : Array Oper) (k : Nat) (o : Oper) (v : AV) (τ : Nat → AV) (hp : List Blk) : Prop :=
  (GYes ops τ o ∧ (k = 0 → ∀ hp', LO P F o (evT τ) hp' (det v hp')) ∧ (k ≠ 0 → ∀ x, LO P F o (evT τ) (hp ++ x) (det v (hp ++ x)))) ∨ (GNo ops τ o ∧ v = .c (.lit undef))
def opA (P : Program) (F : Frm) (ops : Array Oper) (N : Nat) (cls : Nat → Nat) (i : Nat) (K : (Nat → AV) → List Blk → Prop) (τ : Nat → AV) (hp : List Blk) : Prop :=
  match ops[i]? with
  | none => K τ hp
  | some o =>
    if 2 ≤ cls i then (GYes ops τ o ∧ LO P F o (evT τ) hp fun v hp' => Grows (cls i) hp hp' ∧ K (updO N o.dst v τ) hp') ∨ (GNo ops τ o ∧ K (updO N o.dst (.c (.lit undef)) τ) hp)
    else ∃ v, YA P F ops (cls i) o v τ hp ∧ K (updO N o.dst v τ) hp
theorem opA_mono {i : Nat} {K K' : (Nat → AV) → List Blk → Prop} {τ : Nat → AV} {hp : List Blk} (h : ∀ τ hp, K τ hp → K' τ hp) (hh : opA P F ops N cls i K τ hp) : opA P F ops N cls i K' τ hp := by
  unfold opA at *
  split
  · exact h _ _ (by simpa [*] using hh)
  · rename_i o ho
    simp only [ho] at hh
    split
    · rename_i hc
      rw [if_pos hc] at hh
      rcases hh with ⟨h1, h2⟩ | ⟨h1, h2⟩
      · exact .inl ⟨h1, h2.mono fun _ _ h3 => ⟨h3.1, h _ _ h3.2⟩⟩
      · exact .inr ⟨h1, h _ _ h2⟩
    · rename_i hc
      rw [if_neg hc] at hh
      obtain ⟨v, h1, h2⟩ := hh
      exact ⟨v, h1, h _ _ h2⟩
def AnyA (P : Program) (F : Frm) (md : Region.Mode) (ops : Array Oper) (N : Nat) (cls : Nat → Nat) (Kf : (Nat → AV) → List Blk → Prop) : Nat → Array Bool → (Nat → AV) → List Blk → Prop
  | 0, listed, τ, hp => Region.ready md ops listed = [] ∧ Kf τ hp
  | fuel + 1, listed, τ, hp => (Region.ready md ops listed = [] → Kf τ hp) ∧ ∀ i ∈ Region.ready md ops listed, opA P F ops N cls i (AnyA P F md ops N cls Kf fuel (listed.setIfInBounds i true)) τ hp
theorem gyes_wanted {M : Mm} {τ : Nat → AV} {hp : List Blk} {a : Act} {w : World} (hr : Rep F M ⟨τ, hp, N⟩ a w) {o : Oper} (h : GYes ops τ o) : Region.wanted o (yielded ops a.tmps) = true := by
  unfold GYes at h
  unfold Region.wanted
  split
  · rfl
  · rename_i g b hg
    rw [hg] at h
    obtain ⟨d, h1, h2⟩ := h
    rw [yielded_of hr h1 h2]
    simp
theorem gno_wanted {M : Mm} {τ : Nat → AV} {hp : List Blk} {a : Act} {w : World} (hr : Rep F M ⟨τ, hp, N⟩ a w) {o : Oper} (h : GNo ops τ o) : Region.wanted o (yielded ops a.tmps) = false := by
  unfold GNo at h
  unfold Region.wanted
  split
  · rename_i hg; rw [hg] at h; exact h.elim
  · rename_i g b hg
    rw [hg] at h
    obtain ⟨d, h1, ⟨c, h2, h3⟩ | h2⟩ := h
    · rw [yielded_of hr h1 h2, h3]
      cases b <;> simp
    · rw [yielded_un hr h1 h2]
      rfl
theorem rep_upd {M M' : Mm} {τ : Nat → AV} {hp hp' : List Blk} {a : Act} {w w' : World} (hr : Rep F M ⟨τ, hp, N⟩ a w) (hs : Sub M M') (hh : HeapOk F M' hp' w') (d : Option Tmp) {v : AV} {u : Value} (hv : RA M' v u) : Rep F M' ⟨updO N d v τ, hp', N⟩ (a.put d u) w' := by
  have := hr.st hs hh d hv
  cases d <;> exact this
theorem wpOp_of_A {Q : Exit → Act → World → Prop} {i : Nat} {K : (Nat → AV) → List Blk → Prop} {K' : Act → World → Prop} {τ : Nat → AV} {hp : List Blk} {M : Mm} {a : Act} {w : World} (hr : Rep F M ⟨τ, hp, N⟩ a w)
    (hk : ∀ M' τ' hp' a' w', K τ' hp' → Rep F M' ⟨τ', hp', N⟩ a' w' → K' a' w') (h : opA P F ops N cls i K τ hp) : wpOp P ops Q i K' a w := by
  unfold opA at h
  unfold wpOp
  split
  · rename_i ho; simp only [ho] at h; exact hk _ _ _ _ _ h hr
  · rename_i o ho
    simp only [ho] at h
    have key : ∀ K2 : AV → List Blk → Prop, GYes ops τ o → LO P F o (evT τ) hp K2 → (∀ v hp', K2 v hp' → K (updO N o.dst v τ) hp') → (if Region.wanted o (yielded ops a.tmps) = true then o.wp P a w K' Q ∨ (o.asks P a w ∧ LetsOut Q) else K' (a.put o.dst undef) w) := by
      intro K2 hg hl h2
      rw [if_pos (gyes_wanted hr hg)]
      refine .inl ((hl.out M a.eval w (fun x _ => by have := hr.ev x; rwa [evT_eq] at this) hr.heap).wp Q fun u w' ⟨M', v, hp', g1, g2, g3, g4⟩ => hk _ _ _ _ _ (h2 v hp' g1) (rep_upd hr g2.sub g3 _ g4))
    have keyn : GNo ops τ o → K (updO N o.dst (.c (.lit undef)) τ) hp → (if Region.wanted o (yielded ops a.tmps) = true then o.wp P a w K' Q ∨ (o.asks P a w ∧ LetsOut Q) else K' (a.put o.dst undef) w) := by
      intro hg h2
      rw [if_neg (by rw [gno_wanted hr hg]; simp)]
      exact hk _ _ _ _ _ h2 (rep_upd hr (Sub.refl _) hr.heap _ (by simp only [RA, RT]))
    by_cases hc : 2 ≤ cls i
    · rw [if_pos hc] at h
      rcases h with ⟨h1, h2⟩ | ⟨h1, h2⟩
      · exact key _ h1 h2 fun _ _ h => h.2
      · exact keyn h1 h2
    · rw [if_neg hc] at h
      obtain ⟨v, h1, h2⟩ := h
      rcases h1 with ⟨hg, h3, h4⟩ | ⟨hg, rfl⟩
      · have hl : LO P F o (evT τ) hp (det v hp) := by
          by_cases h0 : cls i = 0
          · exact h3 h0 hp
          · have := h4 h0 []; rwa [List.append_nil] at this
        exact key _ hg hl fun v' hp' ⟨e1, e2⟩ => by rw [e1, e2]; exact h2
      · exact keyn hg h2
theorem wpAny_of_A {Kf : (Nat → AV) → List Blk → Prop} {Q : Exit → Act → World → Prop} (hQ : ∀ M τ hp a w, Kf τ hp → Rep F M ⟨τ, hp, N⟩ a w → Q .normal a w) : ∀ (fuel : Nat) (listed : Array Bool) (τ : Nat → AV) (hp : List Blk) (M : Mm) (a : Act) (w : World), Rep F M ⟨τ, hp, N⟩ a w →
    AnyA P F md ops N cls Kf fuel listed τ hp → wpAny P md ops Q fuel listed a w
  | 0, _, _, _, _, _, _, hr, h => ⟨h.1, hQ _ _ _ _ _ h.2 hr⟩
  | fuel + 1, _, _, _, _, _, _, hr, h => ⟨fun h0 => hQ _ _ _ _ _ (h.1 h0) hr, fun i hi => wpOp_of_A hr (fun M' τ' hp' a' w' h' hr' => wpAny_of_A hQ fuel _ τ' hp' M' a' w' hr' h') (h.2 i hi)⟩
theorem updO_comm {d d' : Option Tmp} {v v' : AV} {τ : Nat → AV} (h : ∀ x, d = some x → d' ≠ some x) : updO N d v (updO N d' v' τ) = updO N d' v' (updO N d v τ) := by
  cases d with
  | none => rfl
  | some x =>
    cases d' with
    | none => rfl
    | some y =>
      funext i
      simp only [updO, upd]
      cases hx : Nat.beq i x with
      | false => simp
      | true =>
        cases hy : Nat.beq i y with
        | false => simp
        | true =>
          have := Nat.eq_of_beq_eq_true hx
          have := Nat.eq_of_beq_eq_true hy
          subst_vars
          exact absurd rfl (h _ rfl)
theorem updO_far {d : Option Tmp} {v : AV} {τ : Nat → AV} {i : Nat} (h : d ≠ some i) : updO N d v τ i = τ i := by
  cases d with
  | none => rfl
  | some x =>
    simp only [updO, upd]
    have : Nat.beq i x = false := by
      cases hc : Nat.beq i x with
      | false => rfl
      | true => exact absurd (congrArg some (Nat.eq_of_beq_eq_true hc).symm) h
    rw [this]; rfl
theorem mem_looks {o : Oper} {t : Tmp} (h : Operand.tmp t ∈ o.op.operands.toList) : t ∈ o.looksAt ops := by
  unfold Oper.looksAt
  refine List.mem_append_left _ (List.mem_filterMap.2 ⟨_, h, rfl⟩)
theorem evT_far {d : Option Tmp} {v : AV} {τ : Nat → AV} {o : Oper} (h : ∀ x, d = some x → x ∉ o.looksAt ops) : ∀ x ∈ o.op.operands.toList, evT (updO N d v τ) x = evT τ x := by
  intro x hx
  cases x with
  | tmp t => exact updO_far fun e => h t e (mem_looks hx)
  | _ => rfl
theorem look_guard {o : Oper} {g : Nat} {b : Bool} (hg : o.guard = some (g, b)) {x : Tmp} (hx : (ops[g]?).bind (·.dst) = some x) : x ∈ o.looksAt ops := by
  unfold Oper.looksAt
  refine List.mem_append_right _ ?_
  rw [hg]
  simp [hx]
theorem gyes_far {d : Option Tmp} {v : AV} {τ : Nat → AV} {o : Oper} (h : ∀ x, d = some x → x ∉ o.looksAt ops) : GYes ops (updO N d v τ) o ↔ GYes ops τ o := by
  unfold GYes
  split
  · exact Iff.rfl
  · rename_i g b hg
    constructor
    · rintro ⟨x, h1, h2⟩
      exact ⟨x, h1, by rwa [updO_far fun e => h x e (look_guard hg h1)] at h2⟩
    · rintro ⟨x, h1, h2⟩
      exact ⟨x, h1, by rwa [updO_far fun e => h x e (look_guard hg h1)]⟩
theorem gno_far {d : Option Tmp} {v : AV} {τ : Nat → AV} {o : Oper} (h : ∀ x, d = some x → x ∉ o.looksAt ops) : GNo ops (updO N d v τ) o ↔ GNo ops τ o := by
  unfold GNo
  split
  · exact Iff.rfl
  · rename_i g b hg
    constructor
    · rintro ⟨x, h1, h2⟩
      exact ⟨x, h1, by rwa [updO_far fun e => h x e (look_guard hg h1)] at h2⟩
    · rintro ⟨x, h1, h2⟩
      exact ⟨x, h1, by rwa [updO_far fun e => h x e (look_guard hg h1)]⟩
theorem YA.far {k : Nat} {o : Oper} {v u : AV} {d : Option Tmp} {τ : Nat → AV} {hp hp' : List Blk} (hy : YA P F ops k o v τ hp) (h : ∀ x, d = some x → x ∉ o.looksAt ops) (hh : k = 0 ∨ ∃ y, hp' = hp ++ y) : YA P F ops k o v (updO N d u τ) hp' := by
  rcases hy with ⟨h1, h2, h3⟩ | ⟨h1, h2⟩
  · refine .inl ⟨(gyes_far h).2 h1, fun h0 hq => (h2 h0 hq).congr (evT_far h), fun h0 x => ?_⟩
    rcases hh with hh | ⟨y, rfl⟩
    · exact absurd hh h0
    · rw [List.append_assoc]; exact (h3 h0 (y ++ x)).congr (evT_far h)
  · exact .inr ⟨(gno_far h).2 h1, h2⟩
theorem YA.back {k : Nat} {o : Oper} {v u : AV} {d : Option Tmp} {τ : Nat → AV} {hp : List Blk} (hy : YA P F ops k o v (updO N d u τ) hp) (h : ∀ x, d = some x → x ∉ o.looksAt ops) : YA P F ops k o v τ hp := by
  rcases hy with ⟨h1, h2, h3⟩ | ⟨h1, h2⟩
  · exact .inl ⟨(gyes_far h).1 h1, fun h0 hq => (h2 h0 hq).congr (fun x hx => (evT_far h x hx).symm), fun h0 x => (h3 h0 x).congr (fun x hx => (evT_far h x hx).symm)⟩
  · exact .inr ⟨(gno_far h).1 h1, h2⟩
/-- oj, apart from the looking oi, before it -/
theorem opA_put {i j : Nat} {oi oj : Oper} {v : AV} (hj : ops[j]? = some oj) (hap : oi.apart ops oj = true) (hcl : cls j = 2 → cls i = 0) {K : (Nat → AV) → List Blk → Prop} {τ : Nat → AV} {hp : List Blk}
    (hy : YA P F ops (cls i) oi v τ hp) (h : opA P F ops N cls j K (updO N oi.dst v τ) hp) :
    opA P F ops N cls j (fun τ' hp' => YA P F ops (cls i) oi v τ' hp' ∧ K (updO N oi.dst v τ') hp') τ hp := by
  obtain ⟨h1, h2, h3⟩ := Oper.apart_spec hap
  have hcomm : ∀ u, updO N oj.dst u (updO N oi.dst v τ) = updO N oi.dst v (updO N oj.dst u τ) := fun u => updO_comm (fun x hx e => h2 x e hx)
  unfold opA at *
  simp only [hj] at *
  by_cases hc : 2 ≤ cls j
  · rw [if_pos hc] at h ⊢
    rcases h with ⟨hg, hl⟩ | ⟨hg, hk⟩
    · refine .inl ⟨(gyes_far h1).1 hg, (hl.mono fun u hp' hk => ⟨hk.1, hy.far h3 ?_, ?_⟩).congr fun x hx => (evT_far h1 x hx).symm⟩
      · exact hk.1.imp hcl id
      · rw [← hcomm]; exact hk.2
    · refine .inr ⟨(gno_far h1).1 hg, hy.far h3 (.inr ⟨[], by simp⟩), ?_⟩
      rw [← hcomm]; exact hk
  · rw [if_neg hc] at h ⊢
    obtain ⟨u, hu, hk⟩ := h
    refine ⟨u, hu.back h1, hy.far h3 (.inr ⟨[], by simp⟩), ?_⟩
    rw [← hcomm]; exact hk
/-- j waits for i, directly or not -/
def reachB (md : Region.Mode) (ops : Array Oper) : Nat → Nat → Nat → Bool
  | 0, _, _ => false
  | f + 1, j, i => match ops[j]? with
    | some oj => oj.after.any fun e => Region.binds md e && (e.on == i || reachB md ops f e.on i)
    | none => false
def ClosedL (md : Region.Mode) (ops : Array Oper) (listed : Array Bool) : Prop :=
  ∀ j oj, ops[j]? = some oj → listed.getD j false = true → ∀ e ∈ oj.after, Region.binds md e = true → listed.getD e.on false = true
theorem reach_un {listed : Array Bool} (hc : ClosedL md ops listed) {i : Nat} (hi : listed.getD i false = false) : ∀ (f j : Nat), reachB md ops f j i = true → ∀ oj, ops[j]? = some oj → ∃ e ∈ oj.after, Region.binds md e = true ∧ listed.getD e.on false = false
  | 0, _, h, _, _ => by cases h
  | f + 1, j, h, oj, hj => by
    unfold reachB at h
    rw [hj] at h
    obtain ⟨e, he, hb⟩ := Array.any_eq_true'.1 h
    simp only [Bool.and_eq_true, Bool.or_eq_true, beq_iff_eq] at hb
    refine ⟨e, he, hb.1, ?_⟩
    rcases hb.2 with h2 | h2
    · rw [h2]; exact hi
    · cases hl : listed.getD e.on false with
      | false => rfl
      | true =>
        cases ho : ops[e.on]? with
        | none =>
          cases f with
          | zero => cases h2
          | succ f => unfold reachB at h2; rw [ho] at h2; cases h2
        | some oe =>
          obtain ⟨e', he', hb', hun⟩ := reach_un hc hi f e.on h2 oe ho
          rw [hc e.on oe ho hl e' he' hb'] at hun
          cases hun
theorem reach_not_ready {listed : Array Bool} (hc : ClosedL md ops listed) {i j f : Nat} (hi : listed.getD i false = false) (h : reachB md ops f j i = true) : j ∉ Region.ready md ops listed := by
  intro hr
  obtain ⟨_, oj, hoj, hall⟩ := mem_ready.1 hr
  obtain ⟨e, he, hb, hun⟩ := reach_un hc hi f j h oj hoj
  rw [hall e he hb] at hun
  cases hun
theorem ClosedL.set {listed : Array Bool} (hc : ClosedL md ops listed) {i : Nat} (hi : i ∈ Region.ready md ops listed) : ClosedL md ops (listed.setIfInBounds i true) := by
  obtain ⟨_, oi, hoi, hall⟩ := mem_ready.1 hi
  intro j oj hj hl e he hb
  by_cases hij : i = j
  · subst hij
    have : oj = oi := Option.some.inj (hj.symm.trans hoi)
    subst this
    exact getD_set_true (hall e he hb)
  · rw [getD_set_ne false hij] at hl
    exact getD_set_true (hc j oj hj hl e he hb)
/-- what must hold of all others, for a looking operation to be taken first -/
def freeA (md : Region.Mode) (ops : Array Oper) (cls : Nat → Nat) (listed : Array Bool) (i : Nat) : Bool :=
  match ops[i]? with
  | none => false
  | some oi => (List.range ops.size).all fun j => j == i || listed.getD j true || reachB md ops ops.size j i ||
      (match ops[j]? with | some oj => oi.apart ops oj && (cls j != 2 || cls i == 0) | none => true)
theorem getD_false_of {listed : Array Bool} {i : Nat} (h : listed.getD i true = false) : listed.getD i false = false := by
  rcases Nat.lt_or_ge i listed.size with h' | h'
  · simp [h'] at h ⊢; exact h
  · simp [Array.getElem?_eq_none h'] at h
theorem anyA_first {Kf : (Nat → AV) → List Blk → Prop} {i : Nat} {oi : Oper} {v : AV} (hi : ops[i]? = some oi) :
    ∀ (fuel : Nat) (listed : Array Bool) (τ : Nat → AV) (hp : List Blk), ClosedL md ops listed →
      (∀ j oj, ops[j]? = some oj → j ≠ i → listed.getD j true = false → reachB md ops ops.size j i = false → oi.apart ops oj = true ∧ (cls j = 2 → cls i = 0)) →
      i ∈ Region.ready md ops listed → YA P F ops (cls i) oi v τ hp → ¬ 2 ≤ cls i →
      AnyA P F md ops N cls Kf fuel (listed.setIfInBounds i true) (updO N oi.dst v τ) hp → AnyA P F md ops N cls Kf (fuel + 1) listed τ hp := by
  have self : ∀ {K : (Nat → AV) → List Blk → Prop} {τ : Nat → AV} {hp : List Blk}, YA P F ops (cls i) oi v τ hp → ¬ 2 ≤ cls i → K (updO N oi.dst v τ) hp → opA P F ops N cls i K τ hp := by
    intro K τ hp hy h2 hk
    unfold opA
    simp only [hi]
    rw [if_neg h2]
    exact ⟨v, hy, hk⟩
  intro fuel
  induction fuel with
  | zero =>
    intro listed τ hp _ _ hr hy h2 H
    refine ⟨fun h => (by rw [h] at hr; cases hr), fun j hj => ?_⟩
    by_cases hji : j = i
    · subst hji; exact self hy h2 H
    · have := ready_mono hj hji
      rw [H.1] at this
      cases this
  | succ fuel ih =>
    intro listed τ hp hcl hfree hr hy h2 H
    refine ⟨fun h => (by rw [h] at hr; cases hr), fun j hj => ?_⟩
    by_cases hji : j = i
    · subst hji; exact self hy h2 H
    · have h1 := H.2 j (ready_mono hj hji)
      obtain ⟨hjun, oj, hoj, hall⟩ := mem_ready.1 hj
      have hiun := getD_false_of (mem_ready.1 hr).1
      have hnr : reachB md ops ops.size j i = false := by
        cases hc : reachB md ops ops.size j i with
        | false => rfl
        | true => exact absurd hj (reach_not_ready hcl hiun hc)
      obtain ⟨hap, hcc⟩ := hfree j oj hoj hji hjun hnr
      have h3 := opA_put hoj hap hcc hy h1
      have hfree' : ∀ k ok, ops[k]? = some ok → k ≠ i → (listed.setIfInBounds j true).getD k true = false → reachB md ops ops.size k i = false → oi.apart ops ok = true ∧ (cls k = 2 → cls i = 0) := fun k ok hk hki hun hno => by
        refine hfree k ok hk hki ?_ hno
        by_cases hjk : j = k
        · subst hjk; exact hjun
        · rw [getD_set_ne true hjk] at hun; exact hun
      refine opA_mono (fun τ' hp' h4 => ih (listed.setIfInBounds j true) τ' hp' (hcl.set hj) hfree' (ready_mono hr (Ne.symm hji)) h4.1 h2 ?_) h3
      rw [Array.setIfInBounds_comm _ _ hji]
      exact h4.2
/-- the order of the walk, checked -/
def ordB (md : Region.Mode) (ops : Array Oper) (cls : Nat → Nat) : List Nat → Array Bool → Bool
  | [], listed => (Region.ready md ops listed).isEmpty
  | i :: r, listed => (if 2 ≤ cls i then decide (Region.ready md ops listed = [i]) else (Region.ready md ops listed).contains i && freeA md ops cls listed i) && ordB md ops cls r (listed.setIfInBounds i true)
def WO (P : Program) (F : Frm) (ops : Array Oper) (N : Nat) (cls : Nat → Nat) (Kf : (Nat → AV) → List Blk → Prop) : List Nat → (Nat → AV) → List Blk → Prop
  | [], τ, hp => Kf τ hp
  | i :: r, τ, hp => opA P F ops N cls i (WO P F ops N cls Kf r) τ hp
theorem anyA_ord {Kf : (Nat → AV) → List Blk → Prop} : ∀ (r : List Nat) (listed : Array Bool) (τ : Nat → AV) (hp : List Blk), ClosedL md ops listed → ordB md ops cls r listed = true → WO P F ops N cls Kf r τ hp → AnyA P F md ops N cls Kf r.length listed τ hp
  | [], listed, τ, hp, _, hB, h => ⟨by simpa [ordB] using hB, h⟩
  | i :: r, listed, τ, hp, hc, hB, h => by
    simp only [ordB, Bool.and_eq_true] at hB
    obtain ⟨hB1, hB2⟩ := hB
    by_cases h2 : 2 ≤ cls i
    · rw [if_pos h2] at hB1
      have hr := of_decide_eq_true hB1
      refine ⟨fun h0 => (by rw [hr] at h0; cases h0), fun j hj => ?_⟩
      have : j = i := by rw [hr] at hj; simpa using hj
      subst this
      exact opA_mono (fun τ' hp' h' => anyA_ord r _ τ' hp' (hc.set hj) hB2 h') h
    · rw [if_neg h2] at hB1
      simp only [Bool.and_eq_true] at hB1
      obtain ⟨hr, hf⟩ := hB1
      have hr' : i ∈ Region.ready md ops listed := by simpa using hr
      obtain ⟨_, oi, hoi, _⟩ := mem_ready.1 hr'
      have h' := h
      simp only [WO] at h'
      unfold opA at h'
      simp only [hoi] at h'
      rw [if_neg h2] at h'
      obtain ⟨v, hy, hk⟩ := h'
      refine anyA_first hoi r.length listed τ hp hc ?_ hr' hy h2 (anyA_ord r _ _ _ (hc.set hr') hB2 hk)
      intro j oj hj hji hun hno
      unfold freeA at hf
      rw [hoi] at hf
      have := List.all_eq_true.1 hf j (List.mem_range.2 (Array.getElem?_eq_some_iff.1 hj).1)
      rw [hj] at this
      simp only [hun, hno, Bool.or_false, Bool.or_eq_true, beq_iff_eq, hji, false_or, Bool.and_eq_true, bne_iff_ne] at this
      exact ⟨this.1, fun e => by rcases this.2 with h | h; exact absurd e h; exact h⟩
end
section
variable {P : Program} {F : Frm} {τ : Nat → AV} {hp : List Blk} {N : Nat} {Q : Exit → AS → Prop} {id : Nat} {l : List Oper}
def clsOf (c : List Nat) (i : Nat) : Nat := c.getD i 1
/-- a region that draws its order, walked in the order r; c: the classes -/
theorem ac_draw (c r : List Nat) (hm : P.follows .mixedOrders = true) (hB : (ordB .any l.toArray (clsOf c) r (Array.replicate l.toArray.size false) && Nat.beq r.length l.length) = true)
    (h : WO P F l.toArray N (clsOf c) (fun τ' hp' => Q .normal ⟨τ', hp', N⟩) r τ hp) : AC P F (.region id l.toArray true) Q ⟨τ, hp, N⟩ := by
  refine ⟨fun M a w hr => ?_⟩
  simp only [Bool.and_eq_true] at hB
  have hlen := Nat.eq_of_beq_eq_true hB.2
  have hrd : Rep F M ⟨τ, hp, N⟩ a { w with drawn := w.drawn + 1 } := ⟨hr.tmps, hr.size, hr.defers, hr.heap.drew⟩
  have hcl : ClosedL .any l.toArray (Array.replicate l.toArray.size false) := fun j oj _ hl => by rw [getD_replicate_false] at hl; cases hl
  refine wp_region_any hm ?_
  have H := wpAny_of_A (Q := fun e a' w' => ∃ M' σ', Q e σ' ∧ Rep F M' σ' a' w') (fun M τ hp a w hk hr => ⟨M, _, hk, hr⟩) _ _ _ _ _ _ _ hrd (anyA_ord r _ τ hp hcl hB.1 h)
  rwa [hlen, show l.length = l.toArray.size by simp] at H
end
section
variable {P : Program} {F : Frm} {ops : Array Oper} {N : Nat} {cls : Nat → Nat} {Kf : (Nat → AV) → List Blk → Prop} {τ : Nat → AV} {hp : List Blk} {r : List Nat} {i : Nat} {d : Option Tmp} {op : Op} {ty : TypeId} {pos : String} {aft : Array Edge} {g : Nat} {b c : Bool} {dg t : Tmp}
theorem w_nil (h : Kf τ hp) : WO P F ops N cls Kf [] τ hp := h
/-- looks, and leaves the blocks -/
theorem w_q {v : AV} (ho : ops[i]? = some ⟨d, op, ty, pos, aft, none⟩) (hc : Nat.beq (cls i) 1 = true) (hl : ∀ x, LO P F ⟨d, op, ty, pos, aft, none⟩ (evT τ) (hp ++ x) (det v (hp ++ x))) (h : WO P F ops N cls Kf r (updO N d v τ) hp) : WO P F ops N cls Kf (i :: r) τ hp := by
  have hc := Nat.eq_of_beq_eq_true hc
  simp only [WO]
  unfold opA
  simp only [ho]
  rw [if_neg (by omega)]
  exact ⟨v, .inl ⟨trivial, fun h0 => by omega, fun _ => hl⟩, h⟩
/-- does not look at the blocks -/
theorem w_p {v : AV} (ho : ops[i]? = some ⟨d, op, ty, pos, aft, none⟩) (hc : Nat.beq (cls i) 0 = true) (hl : ∀ hp', LO P F ⟨d, op, ty, pos, aft, none⟩ (evT τ) hp' (det v hp')) (h : WO P F ops N cls Kf r (updO N d v τ) hp) : WO P F ops N cls Kf (i :: r) τ hp := by
  have hc := Nat.eq_of_beq_eq_true hc
  simp only [WO]
  unfold opA
  simp only [ho]
  rw [if_neg (by omega)]
  exact ⟨v, .inl ⟨trivial, fun _ => hl, fun h0 => absurd hc h0⟩, h⟩
/-- writes -/
theorem w_l (ho : ops[i]? = some ⟨d, op, ty, pos, aft, none⟩) (hc : Nat.beq (cls i) 2 = true) (hl : LO P F ⟨d, op, ty, pos, aft, none⟩ (evT τ) hp fun v hp' => WO P F ops N cls Kf r (updO N d v τ) hp') : WO P F ops N cls Kf (i :: r) τ hp := by
  have hc := Nat.eq_of_beq_eq_true hc
  simp only [WO]
  unfold opA
  simp only [ho]
  rw [if_pos (by omega)]
  exact .inl ⟨trivial, hl.mono fun _ _ h => ⟨.inl hc, h⟩⟩
theorem det_refl {v : AV} {hp : List Blk} : det v hp v hp := ⟨rfl, rfl⟩
theorem w_qg {v : AV} (ho : ops[i]? = some ⟨d, op, ty, pos, aft, some (g, b)⟩) (hc : Nat.beq (cls i) 1 = true) (hd : (ops[g]?).bind (·.dst) = some dg) (hv : τ dg = .c (.lit (.bool c))) (hcb : c = b) (hl : ∀ x, LO P F ⟨d, op, ty, pos, aft, some (g, b)⟩ (evT τ) (hp ++ x) (det v (hp ++ x))) (h : WO P F ops N cls Kf r (updO N d v τ) hp) : WO P F ops N cls Kf (i :: r) τ hp := by
  have hc := Nat.eq_of_beq_eq_true hc
  subst hcb
  simp only [WO]
  unfold opA
  simp only [ho]
  rw [if_neg (by omega)]
  exact ⟨v, .inl ⟨⟨dg, hd, hv⟩, fun h0 => by omega, fun _ => hl⟩, h⟩
theorem w_no (ho : ops[i]? = some ⟨d, op, ty, pos, aft, some (g, b)⟩) (hc : Nat.ble (cls i) 1 = true) (hd : (ops[g]?).bind (·.dst) = some dg) (hv : τ dg = .c (.lit (.bool c))) (hcb : c = !b) (h : WO P F ops N cls Kf r (updO N d (.c (.lit undef)) τ) hp) : WO P F ops N cls Kf (i :: r) τ hp := by
  have hc := Nat.le_of_ble_eq_true hc
  simp only [WO]
  unfold opA
  simp only [ho]
  rw [if_neg (by omega)]
  exact ⟨_, .inr ⟨⟨dg, hd, .inl ⟨c, hv, hcb⟩⟩, rfl⟩, h⟩
theorem w_un (ho : ops[i]? = some ⟨d, op, ty, pos, aft, some (g, b)⟩) (hc : Nat.ble (cls i) 1 = true) (hd : (ops[g]?).bind (·.dst) = some dg) (hv : τ dg = .c (.lit undef)) (h : WO P F ops N cls Kf r (updO N d (.c (.lit undef)) τ) hp) : WO P F ops N cls Kf (i :: r) τ hp := by
  have hc := Nat.le_of_ble_eq_true hc
  simp only [WO]
  unfold opA
  simp only [ho]
  rw [if_neg (by omega)]
  exact ⟨_, .inr ⟨⟨dg, hd, .inr hv⟩, rfl⟩, h⟩
end
end Go.Proofs.Ytgjfiedepfjdcaa
