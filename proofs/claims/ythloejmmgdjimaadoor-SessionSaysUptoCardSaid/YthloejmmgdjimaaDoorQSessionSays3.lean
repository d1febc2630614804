/-
  Texts of this proof, part 3: Ab5 Ab6 Ab7 Ab8.
-/
import Derived.Test.YthloejmmgdjimaaDoorQSessionSays2
import Derived.IntWalk
import Derived.Lib.AppendStr
import Derived.Lib.AppendZerosOnto
import Derived.Lib.MinMax
import Derived.WideKeyEntry
namespace Go.Proofs.YthloejmmgdjimaaDoor
open Go.RowKit
def oneA : AV → Bool
  | .c (.lit v) => v.oneCell'
  | .c (.row _ _ _) => true
  | .c (.fn _ _) => true
  | .c (.pin _ _) => true
  | .fn _ _ => true
  | .ptr _ _ _ => true
  | .own _ _ => true
  | .eptr _ _ _ => true
  | _ => false
def allOne : List AV → Bool
  | [] => true
  | a :: l => cond (oneA a) (allOne l) false
def cellsA : AV → List AV
  | .agg cs => cs
  | .c (.agg ts) => ts.map .c
  | v => [v]
theorem one_of {M : Mm} {v : AV} {u : Value} (h : RA M v u) (ho : oneA v = true) : u.oneCell' = true := by
  cases v with
  | c t =>
    simp only [RA] at h
    cases t with
    | lit v => simp only [RT] at h; rw [h]; exact ho
    | row n sz cs => simp only [RT] at h; obtain ⟨A, c, xs, rfl, _⟩ := h; rfl
    | fn f cap => simp only [RT] at h; obtain ⟨xs, rfl, _⟩ := h; rfl
    | pin cs off => simp only [RT] at h; obtain ⟨ad, xs, rfl, _⟩ := h; rfl
    | agg cs => simp [oneA] at ho
    | tup cs => simp [oneA] at ho
  | fn f cap => simp only [RA] at h; obtain ⟨xs, rfl, _⟩ := h; rfl
  | ptr i b off => simp only [RA] at h; rw [h]; rfl
  | own i v => simp only [RA] at h; rw [h.1]; exact h.2
  | eptr i v k => simp only [RA] at h; obtain ⟨ad, n, c, _, rfl⟩ := h; rfl
  | agg cs => simp [oneA] at ho
  | tup cs => simp [oneA] at ho
  | junk => simp [oneA] at ho
theorem ones_of {M : Mm} : ∀ {vs : List AV} {us : List Value}, RAs M vs us → allOne vs = true → OneAll us
  | [], _, h, _ => by simp only [RAs] at h; subst h; intro x hx; simp at hx
  | v :: vs, _, h, ho => by
    simp only [RAs] at h
    obtain ⟨x, r, rfl, h1, h2⟩ := h
    simp only [allOne] at ho
    cases hc : oneA v with
    | false => rw [hc] at ho; cases ho
    | true =>
      rw [hc] at ho
      intro y hy
      rcases List.mem_cons.1 hy with rfl | hy
      · exact one_of h1 hc
      · exact ones_of h2 ho y hy
theorem cells_one {v : Value} (h : v.oneCell' = true) : v.cells = #[v] := by cases v <;> simp [Value.oneCell'] at h <;> rfl
theorem cells_of {M : Mm} {v : AV} {u : Value} (h : RA M v u) (ho : allOne (cellsA v) = true) : RAs M (cellsA v) u.cells.toList ∧ OneAll u.cells.toList := by
  have key : RAs M (cellsA v) u.cells.toList → RAs M (cellsA v) u.cells.toList ∧ OneAll u.cells.toList := fun h => ⟨h, ones_of h ho⟩
  have one : cellsA v = [v] → RAs M (cellsA v) u.cells.toList := by
    intro e
    rw [e] at ho ⊢
    have h1 : oneA v = true := by
      simp only [allOne] at ho
      cases hc : oneA v with
      | false => rw [hc] at ho; cases ho
      | true => rfl
    rw [cells_one (one_of h h1)]
    simp only [RAs]
    exact ⟨u, [], rfl, h, rfl⟩
  refine key ?_
  cases v with
  | c t =>
    cases t with
    | agg ts =>
      simp only [RA, RT] at h
      obtain ⟨xs, rfl, h⟩ := h
      simpa [cellsA, Value.cells] using RAs.ofT h
    | _ => exact one rfl
  | agg cs =>
    simp only [RA] at h
    obtain ⟨xs, rfl, h⟩ := h
    simpa [cellsA, Value.cells] using h
  | _ => exact one rfl
def spl {α : Type} : List α → Nat → List α → List α
  | l, _, [] => l
  | l, k, v :: vs => spl (l.set k v) (k + 1) vs
theorem spl_eq {α : Type} : ∀ (vs l : List α) (k : Nat), k + vs.length ≤ l.length → spl l k vs = l.take k ++ vs ++ l.drop (k + vs.length)
  | [], l, k, _ => by simp [spl]
  | v :: vs, l, k, h => by
    have hk : k < l.length := by simp at h; omega
    rw [spl, spl_eq vs (l.set k v) (k + 1) (by simp at h ⊢; omega)]
    rw [List.take_set, List.drop_set, if_pos (by omega), List.take_succ_eq_append_getElem hk, List.set_append_right _ _ (by simp; omega)]
    simp [Nat.min_eq_left (Nat.le_of_lt hk), Nat.add_assoc, Nat.add_comm 1]
theorem RAs.spl {M : Mm} : ∀ {vs cs : List AV} {us xs : List Value} {k : Nat}, RAs M cs xs → RAs M vs us → RAs M (spl cs k vs) (Go.Proofs.YthloejmmgdjimaaDoor.spl xs k us)
  | [], _, _, _, _, h, h' => by simp only [RAs] at h'; subst h'; exact h
  | v :: vs, cs, _, xs, k, h, h' => by
    simp only [RAs] at h'
    obtain ⟨x, r, rfl, h1, h2⟩ := h'
    exact RAs.spl (vs := vs) (cs := cs.set k v) (us := r) (xs := xs.set k x) (k := k + 1) (RAs.set k h h1) h2
theorem spl_one {xs us : List Value} {k : Nat} (h : OneAll xs) (h' : OneAll us) : OneAll (spl xs k us) := by
  induction us generalizing xs k with
  | nil => exact h
  | cons u us ih =>
    refine ih (fun x hx => ?_) (fun x hx => h' x (List.mem_cons_of_mem _ hx))
    rcases List.mem_or_eq_of_mem_set hx with hx | rfl
    · exact h x hx
    · exact h' x (by simp)
theorem spl_len {α : Type} : ∀ (vs l : List α) (k : Nat), (spl l k vs).length = l.length
  | [], l, k => rfl
  | v :: vs, l, k => by rw [spl, spl_len vs]; simp
section
variable {P : Program} {F : Frm} {L : Tab} {d : Option Tmp} {ty : TypeId} {pos : String} {aft : Array Edge} {g : Option (Nat × Bool)} {ρ : Operand → AV} {hp : List Blk} {K : AV → List Blk → Prop}
theorem lo_move {x : Operand} {v : AV} (hv : ρ x = v) (h : K v hp) : LO P F ⟨d, .move x, ty, pos, aft, g⟩ ρ hp K := by
  refine LO.same (v := v) (fun M e w hx _ => ⟨e x, rfl, ?_⟩) h
  rw [← hv]; exact hx x (by first | (simp [Op.operands]; done) | simp [Op.operands, Call.operands])
theorem lo_assign {x : Operand} {v : AV} (hv : ρ x = v) (h : K v hp) : LO P F ⟨d, .assign x, ty, pos, aft, g⟩ ρ hp K := by
  refine LO.same (v := v) (fun M e w hx _ => ⟨e x, rfl, ?_⟩) h
  rw [← hv]; exact hx x (by first | (simp [Op.operands]; done) | simp [Op.operands, Call.operands])
theorem lo_pick_t {c x y : Operand} {v : AV} (hc : ρ c = .c (.lit (.bool true))) (hv : ρ x = v) (h : K v hp) : LO P F ⟨d, .pick c x y, ty, pos, aft, g⟩ ρ hp K := by
  refine LO.same (v := v) (fun M e w hx _ => ⟨e x, ?_, ?_⟩) h
  · have := hx c (by first | (simp [Op.operands]; done) | simp [Op.operands, Call.operands])
    rw [hc] at this
    simp only [RA, RT] at this
    simp [execOp, this, asBool]
  · rw [← hv]; exact hx x (by first | (simp [Op.operands]; done) | simp [Op.operands, Call.operands])
theorem lo_pick_f {c x y : Operand} {v : AV} (hc : ρ c = .c (.lit (.bool false))) (hv : ρ y = v) (h : K v hp) : LO P F ⟨d, .pick c x y, ty, pos, aft, g⟩ ρ hp K := by
  refine LO.same (v := v) (fun M e w hx _ => ⟨e y, ?_, ?_⟩) h
  · have := hx c (by first | (simp [Op.operands]; done) | simp [Op.operands, Call.operands])
    rw [hc] at this
    simp only [RA, RT] at this
    simp [execOp, this, asBool]
  · rw [← hv]; exact hx y (by first | (simp [Op.operands]; done) | simp [Op.operands, Call.operands])
theorem lo_extract {x : Operand} {ts : List T} {k : Nat} {t : T} (hx : ρ x = .c (.tup ts)) (hk : ts[k]? = some t) (h : K (.c t) hp) : LO P F ⟨d, .extract x k, ty, pos, aft, g⟩ ρ hp K := by
  refine ⟨fun M e w he hh => ?_⟩
  have h1 := he x (by first | (simp [Op.operands]; done) | simp [Op.operands, Call.operands])
  rw [hx] at h1
  simp only [RA, RT] at h1
  obtain ⟨xs, hu, hxs⟩ := h1
  obtain ⟨u, hu1, hu2⟩ := hxs.get hk
  have : (execOp e ⟨d, .extract x k, ty, pos, aft, g⟩).run P w = .ok (.value u) w := by
    simp [execOp, hu, Instr.extract, hu1]
  rw [this]
  exact ⟨M, _, hp, h, Ext.refl _ _, hh, by simp only [RA]; exact hu2⟩
theorem lo_extractA {x : Operand} {ts : List AV} {k : Nat} {t : AV} (hx : ρ x = .tup ts) (hk : ts[k]? = some t) (h : K t hp) : LO P F ⟨d, .extract x k, ty, pos, aft, g⟩ ρ hp K := by
  refine ⟨fun M e w he hh => ?_⟩
  have h1 := he x (by first | (simp [Op.operands]; done) | simp [Op.operands, Call.operands])
  rw [hx] at h1
  simp only [RA] at h1
  obtain ⟨xs, hu, hxs⟩ := h1
  obtain ⟨u, hu1, hu2⟩ := hxs.get hk
  have : (execOp e ⟨d, .extract x k, ty, pos, aft, g⟩).run P w = .ok (.value u) w := by
    simp [execOp, hu, Instr.extract, hu1]
  rw [this]
  exact ⟨M, _, hp, h, Ext.refl _ _, hh, hu2⟩
/-- a new block -/
theorem push_box {M : Mm} {w : World} (hh : HeapOk F M hp w) {t : TypeId} {cs : List AV} {xs : List Value} (hx : RAs M cs xs) (h1 : OneAll xs) : HeapOk F M (hp ++ [.box w.heap.size t cs]) (w.alloc (.cells xs.toArray t)) := by
  refine hh.step hp.length rfl rfl rfl (by simp) (fun b hb _ => Below.heap_alloc _ _ _ hb) (Ext.refl _ _) (fun p v h1 h2 => by rw [h2] at h1; cases h1) (fun j hj => ?_) (fun x' hx' => ?_)
  · rcases Nat.lt_or_ge j hp.length with h | h
    · rw [List.getElem?_append_left h]
    · rw [List.getElem?_eq_none (by simp; omega), List.getElem?_eq_none (by omega)]
  · have : x' = .box w.heap.size t cs := by simpa using hx'.symm
    subst this
    refine ⟨⟨xs, heap_alloc_new w _, hx, h1⟩, fun b hb => .inr ?_⟩
    obtain rfl : w.heap.size = b := by simpa [Blk.blk] using hb
    refine ⟨Nat.le_refl _, fun p hp => ?_⟩
    cases hc : M p with
    | none => rfl
    | some v => have := World.block_lt_of_cell? w p (hh.mem p v hc).1; omega
theorem lo_alloc (hL : TabOk P L) {t : TypeId} {ti : TI} (ht : L.look t = some ti) (h : ∀ b, K (.ptr hp.length b 0) (hp ++ [.box b t (ti.zero.map fun v => .c (.lit v))])) : LO P F ⟨d, .alloc t, ty, pos, aft, g⟩ ρ hp K := by
  refine ⟨fun M e w he hh => ?_⟩
  obtain ⟨z, hz, hzc, _, hone⟩ := hL.zero ht
  have : (execOp e ⟨d, .alloc t, ty, pos, aft, g⟩).run P w = .ok (.value (.pointer (some ⟨w.heap.size, 0, none⟩))) (w.alloc (.cells z.cells t)) := by
    simp [execOp, Instr.alloc, hz, newVar, newRow]
  rw [this]
  refine ⟨M, _, _, h w.heap.size, Ext.refl _ _, ?_, (by simp only [RA])⟩
  have hz' : z.cells = ti.zero.toArray := by rw [← hzc]
  rw [hz']
  refine push_box hh ?_ hone
  generalize ti.zero = l
  induction l with
  | nil => simp [RAs]
  | cons v l ih => simp only [List.map_cons, RAs, RA, RT]; exact ⟨v, l, rfl, rfl, ih⟩
theorem lo_box {t : TypeId} {x : Operand} {v : AV} (hv : ρ x = v) (h1 : allOne (cellsA v) = true) (h : ∀ b, K (.ptr hp.length b 0) (hp ++ [.box b t (cellsA v)])) : LO P F ⟨d, .box t x, ty, pos, aft, g⟩ ρ hp K := by
  refine ⟨fun M e w he hh => ?_⟩
  have hx := he x (by first | (simp [Op.operands]; done) | simp [Op.operands, Call.operands])
  rw [hv] at hx
  obtain ⟨hc, ho⟩ := cells_of hx h1
  have : (execOp e ⟨d, .box t x, ty, pos, aft, g⟩).run P w = .ok (.value (.pointer (some ⟨w.heap.size, 0, none⟩))) (w.alloc (.cells (e x).cells t)) := by
    simp [execOp, Instr.box, newVar, newRow]
  rw [this]
  refine ⟨M, _, _, h w.heap.size, Ext.refl _ _, ?_, by simp only [RA]⟩
  have := push_box (t := t) hh hc ho
  simpa using this
theorem lo_load_box (hL : TabOk P L) {t : TypeId} {ti : TI} {x : Operand} {i b off : Nat} {tb : TypeId} {cs : List AV} (hx : ρ x = .ptr i b off) (hi : hp[i]? = some (.box b tb cs)) (ht : L.look t = some ti) (ha : ti.agg = true) (hl : Nat.ble (off + ti.size) cs.length = true) (h : K (.agg ((cs.drop off).take ti.size)) hp) : LO P F ⟨d, .load t x, ty, pos, aft, g⟩ ρ hp K := by
  refine LO.same (fun M e w he hh => ?_) h
  have h1 := he x (by first | (simp [Op.operands]; done) | simp [Op.operands, Call.operands])
  rw [hx] at h1
  simp only [RA] at h1
  obtain ⟨u, hu, hr⟩ := load_box hL hh hi ht ha (Nat.le_of_ble_eq_true hl)
  exact ⟨u, by simp [execOp, Instr.loadAt, h1, Instr.sureAddr, hu], hr⟩
theorem lo_load_box1 (hL : TabOk P L) {t : TypeId} {ti : TI} {x : Operand} {i b off : Nat} {tb : TypeId} {cs : List AV} {v : AV} (hx : ρ x = .ptr i b off) (hi : hp[i]? = some (.box b tb cs)) (ht : L.look t = some ti) (ha : ti.agg = false) (hv : cs[off]? = some v) (h : K v hp) : LO P F ⟨d, .load t x, ty, pos, aft, g⟩ ρ hp K := by
  refine LO.same (fun M e w he hh => ?_) h
  have h1 := he x (by first | (simp [Op.operands]; done) | simp [Op.operands, Call.operands])
  rw [hx] at h1
  simp only [RA] at h1
  obtain ⟨u, hu, hr⟩ := load_box1 hL hh hi ht ha hv
  exact ⟨u, by simp [execOp, Instr.loadAt, h1, Instr.sureAddr, hu], hr⟩
theorem lo_load_pin1 (hL : TabOk P L) {t : TypeId} {ti : TI} {x : Operand} {off : Nat} {cs : List T} {v : T} (hx : ρ x = .c (.pin cs off)) (ht : L.look t = some ti) (ha : ti.agg = false) (hv : cs[off]? = some v) (h : K (.c v) hp) : LO P F ⟨d, .load t x, ty, pos, aft, g⟩ ρ hp K := by
  refine LO.same (fun M e w he hh => ?_) h
  have h1 := he x (by first | (simp [Op.operands]; done) | simp [Op.operands, Call.operands])
  rw [hx] at h1
  simp only [RA, RT] at h1
  obtain ⟨ad, xs, hu, hat, hxs⟩ := h1
  obtain ⟨u, hu1, hu2⟩ := hxs.get hv
  have hcell := (hh.mem _ _ (hat off u hu1)).1
  refine ⟨u, ?_, by simp only [RA]; exact hu2⟩
  simp [execOp, Instr.loadAt, hu, Instr.sureAddr, loadVar, hL.isAgg ht, ha, hcell]
theorem lo_load_pin (hL : TabOk P L) {t : TypeId} {ti : TI} {x : Operand} {off : Nat} {cs ts : List T} (hx : ρ x = .c (.pin cs off)) (ht : L.look t = some ti) (ha : ti.agg = true) (hts : (cs.drop off).take ti.size = ts) (hl : ts.length = ti.size) (h : K (.c (.agg ts)) hp) : LO P F ⟨d, .load t x, ty, pos, aft, g⟩ ρ hp K := by
  refine LO.same (fun M e w he hh => ?_) h
  have h1 := he x (by first | (simp [Op.operands]; done) | simp [Op.operands, Call.operands])
  rw [hx] at h1
  simp only [RA, RT] at h1
  obtain ⟨ad, xs, hu, hat, hxs⟩ := h1
  have hys : RTs M ts ((xs.drop off).take ti.size) := by rw [← hts]; exact (hxs.drop off).take ti.size
  have hlen : ((xs.drop off).take ti.size).length = ti.size := by rw [hys.len, hl]
  have hlc : (loadCells (ad.add off) ti.size).run P w = .ok ((xs.drop off).take ti.size).toArray w := by
    have := run_loadCells_list (P := P) w (ad.add off) ((xs.drop off).take ti.size) (fun j v hj => by
      rw [add_add']
      rw [List.getElem?_take] at hj
      split at hj
      · rw [List.getElem?_drop] at hj
        exact (hh.mem _ _ (hat _ v hj)).1
      · cases hj)
    rwa [hlen] at this
  refine ⟨.agg ((xs.drop off).take ti.size).toArray, ?_, by simp only [RA, RT]; exact ⟨_, rfl, hys⟩⟩
  simp [execOp, Instr.loadAt, hu, Instr.sureAddr, loadVar, hL.isAgg ht, ha, hL.sizeOf ht, hlc]
theorem lo_store (hL : TabOk P L) {t : TypeId} {ti : TI} {x y : Operand} {i b off : Nat} {tb : TypeId} {cs : List AV} {v : AV} (hx : ρ x = .ptr i b off) (hi : hp[i]? = some (.box b tb cs)) (hv : ρ y = v) (ht : L.look t = some ti) (h1 : allOne (cellsA v) = true) (hl : (cellsA v).length = ti.size) (hb : Nat.ble (off + ti.size) cs.length = true)
    (h : K (.c (.lit undef)) (hp.set i (.box b tb (spl cs off (cellsA v))))) : LO P F ⟨d, .store t x y, ty, pos, aft, g⟩ ρ hp K := by
  refine ⟨fun M e w he hh => ?_⟩
  have hax := he x (by first | (simp [Op.operands]; done) | simp [Op.operands, Call.operands])
  rw [hx] at hax
  simp only [RA] at hax
  have hvy := he y (by first | (simp [Op.operands]; done) | simp [Op.operands, Call.operands])
  rw [hv] at hvy
  obtain ⟨hc, ho⟩ := cells_of hvy h1
  obtain ⟨xs, hhp, hxs, hone⟩ := hh.at_ i _ hi
  have hlen := hxs.len
  have hcl := hc.len
  have hble := Nat.le_of_ble_eq_true hb
  have hcs : (e y).cells.size = ti.size := by rw [← hl, ← hcl]; simp
  have hst := run_storeCells_at (P := P) b off tb (e y).cells.toList 0 xs.toArray w hhp (by simp; omega) ho
  have hrun : (execOp e ⟨d, .store t x y, ty, pos, aft, g⟩).run P w = .ok .skip (w.setRow b (spl xs off (e y).cells.toList).toArray) := by
    rw [spl_eq _ _ _ (by simp; omega)]
    simp [execOp, Instr.storeAt, hax, Instr.sureAddr, storeVar, hL.sizeOf ht, hcs] at hst ⊢
    simp [hst]
  rw [hrun]
  refine ⟨M, _, _, h, Ext.refl _ _, ?_, by simp only [RA, RT]⟩
  have hblk := setRow_heap w b xs.toArray (spl xs off (e y).cells.toList).toArray tb _ hhp
  refine hh.step i rfl rfl rfl (by simp [World.setRow]) (fun k hk hne => ?_) (Ext.refl _ _) (fun p v h1 h2 => by rw [h2] at h1; cases h1) (fun j hj => by rw [List.getElem?_set_ne (Ne.symm hj)]) (fun x' hx' => ?_)
  · have : k ≠ b := fun e => hne _ hi (by rw [e]; rfl)
    simp [World.setRow, Array.getElem?_modify, Ne.symm this]
  · have hlt : i < hp.length := (List.getElem?_eq_some_iff.1 hi).1
    rw [List.getElem?_set_self hlt] at hx'
    obtain rfl : Blk.box b tb (spl cs off (cellsA v)) = x' := by injection hx'
    refine ⟨⟨_, hblk, RAs.spl hxs hc, spl_one hone ho⟩, fun b' hb' => .inl ⟨_, hi, hb'⟩⟩
end
end Go.Proofs.YthloejmmgdjimaaDoor
namespace Go.Proofs.YthloejmmgdjimaaDoor
open Go.RowKit
section
variable {P : Program} {F : Frm} {L : Tab} {d : Option Tmp} {ty : TypeId} {pos : String} {aft : Array Edge} {g : Option (Nat × Bool)} {ρ : Operand → AV} {hp : List Blk} {K : AV → List Blk → Prop}
theorem run_fieldAt (hL : TabOk P L) {s : TypeId} {ti : TI} {fs : List (Nat × Nat)} {k o sz : Nat} (ht : L.look s = some ti) (hd : ti.d = .struct fs) (hk : fs[k]? = some (o, sz)) (h0 : Nat.beq sz 0 = false) (ad : Addr) (w : World) :
    (Instr.fieldAt s (.pointer (some ad)) k).run P w = .ok (.pointer (some (ad.add o))) w := by
  obtain ⟨fields, f, h1, h2, h3, h4⟩ := hL.field ht hd hk
  cases hi : P.info? f.type with
  | none => rw [hi] at h4; simp at h4
  | some inf =>
    rw [hi] at h4
    have h5 : inf.size = sz := by simpa using h4
    have h6 : ¬ sz = 0 := fun e => by rw [e] at h0; cases h0
    simp [Instr.fieldAt, run_underlying h1, h2, Instr.sureAddr, fieldPlace, Go.sizeOf, typeInfo, hi, h5, h6, h3]
theorem lo_fld (hL : TabOk P L) {s : TypeId} {ti : TI} {fs : List (Nat × Nat)} {k o sz : Nat} {x : Operand} {i b off : Nat} (hx : ρ x = .ptr i b off) (ht : L.look s = some ti) (hd : ti.d = .struct fs) (hk : fs[k]? = some (o, sz)) (h0 : Nat.beq sz 0 = false) (h : K (.ptr i b (off + o)) hp) : LO P F ⟨d, .fieldAddr s x k, ty, pos, aft, g⟩ ρ hp K := by
  refine LO.same (fun M e w he hh => ?_) h
  have h1 := he x (by first | (simp [Op.operands]; done) | simp [Op.operands, Call.operands])
  rw [hx] at h1
  simp only [RA] at h1
  exact ⟨_, by simp [execOp, h1, run_fieldAt hL ht hd hk h0]; rfl, by simp only [RA, box_add]⟩
theorem lo_fld_pin (hL : TabOk P L) {s : TypeId} {ti : TI} {fs : List (Nat × Nat)} {k o sz : Nat} {x : Operand} {cs : List T} {off : Nat} (hx : ρ x = .c (.pin cs off)) (ht : L.look s = some ti) (hd : ti.d = .struct fs) (hk : fs[k]? = some (o, sz)) (h0 : Nat.beq sz 0 = false) (h : K (.c (.pin cs (off + o))) hp) : LO P F ⟨d, .fieldAddr s x k, ty, pos, aft, g⟩ ρ hp K := by
  refine LO.same (fun M e w he hh => ?_) h
  have h1 := he x (by first | (simp [Op.operands]; done) | simp [Op.operands, Call.operands])
  rw [hx] at h1
  simp only [RA, RT] at h1
  obtain ⟨ad, xs, hu, hat, hxs⟩ := h1
  refine ⟨_, by simp [execOp, hu, run_fieldAt hL ht hd hk h0]; rfl, ?_⟩
  simp only [RA, RT]
  exact ⟨ad, xs, by rw [add_add'], hat, hxs⟩
theorem lo_fld_e (hL : TabOk P L) {s : TypeId} {ti : TI} {fs : List (Nat × Nat)} {k o sz : Nat} {x : Operand} {i : Nat} {v : Value} {off : Nat} (hx : ρ x = .eptr i v off) (ht : L.look s = some ti) (hd : ti.d = .struct fs) (hk : fs[k]? = some (o, sz)) (h0 : Nat.beq sz 0 = false) (h : K (.eptr i v (off + o)) hp) : LO P F ⟨d, .fieldAddr s x k, ty, pos, aft, g⟩ ρ hp K := by
  refine LO.same (fun M e w he hh => ?_) h
  have h1 := he x (by first | (simp [Op.operands]; done) | simp [Op.operands, Call.operands])
  rw [hx] at h1
  simp only [RA] at h1
  obtain ⟨ad, n, c, hv, hu⟩ := h1
  refine ⟨_, by simp [execOp, hu, run_fieldAt hL ht hd hk h0]; rfl, ?_⟩
  simp only [RA]
  exact ⟨ad, n, c, hv, by rw [add_add']⟩
theorem lo_idx (hL : TabOk P L) {t el : TypeId} {ti te : TI} {x y : Operand} {n sz : Nat} {cs : List T} {k : IntKind} {z : Int} (j : Nat) (hx : ρ x = .c (.row n sz cs)) (hy : ρ y = .c (.lit (.int k z))) (hz : z = (j : Int)) (hj : j < n) (ht : L.look t = some ti) (hd : ti.d = .slice el) (hte : L.look el = some te) (hsz : te.size = sz) (h : K (.c (.pin cs (j * sz))) hp) : LO P F ⟨d, .indexAddr t x y, ty, pos, aft, g⟩ ρ hp K := by
  refine LO.same (fun M e w he hh => ?_) h
  have h1 := he x (by first | (simp [Op.operands]; done) | simp [Op.operands, Call.operands])
  rw [hx] at h1
  simp only [RA, RT] at h1
  obtain ⟨A, c, xs, hu, hn, _, _, _, hA, hxs⟩ := h1
  obtain ⟨ad, rfl, hat⟩ := hA (by omega)
  have h2 := he y (by first | (simp [Op.operands]; done) | simp [Op.operands, Call.operands])
  rw [hy] at h2
  simp only [RA, RT] at h2
  refine ⟨.pointer (some (ad.add (j * sz))), ?_, by simp only [RA, RT]; exact ⟨ad, xs, rfl, hat, hxs⟩⟩
  subst hz
  simp [execOp, Instr.indexAt, hu, h2, asIntOf, run_underlying (hL.slice ht hd), hL.sizeOf hte, hsz, hj]
theorem lo_idx_own (hL : TabOk P L) {t el : TypeId} {ti te : TI} {x y : Operand} {i n sz : Nat} {v : Value} {e' : TypeId} {cs : List T} {k : IntKind} {z : Int} (j : Nat) (hx : ρ x = .own i v) (hi : hp[i]? = some (.row v e' sz n cs)) (hy : ρ y = .c (.lit (.int k z))) (hz : z = (j : Int)) (hj : j < n) (ht : L.look t = some ti) (hd : ti.d = .slice el) (hte : L.look el = some te) (hsz : te.size = sz) (h : K (.eptr i v (j * sz)) hp) : LO P F ⟨d, .indexAddr t x y, ty, pos, aft, g⟩ ρ hp K := by
  refine LO.same (fun M e w he hh => ?_) h
  have h1 := he x (by first | (simp [Op.operands]; done) | simp [Op.operands, Call.operands])
  rw [hx] at h1
  simp only [RA] at h1
  obtain ⟨xs, ho, _⟩ := hh.at_ i _ hi
  obtain ⟨A, c, rfl, _⟩ := ownO_shape ho
  obtain ⟨ad, rfl⟩ := ho.some_ (by omega)
  have h2 := he y (by first | (simp [Op.operands]; done) | simp [Op.operands, Call.operands])
  rw [hy] at h2
  simp only [RA, RT] at h2
  refine ⟨.pointer (some (Addr.add ad (j * sz))), ?_, by simp only [RA]; exact ⟨_, _, _, rfl, rfl⟩⟩
  subst hz
  simp [execOp, Instr.indexAt, h1.1, h2, asIntOf, run_underlying (hL.slice ht hd), hL.sizeOf hte, hsz, hj]
theorem own_load {M : Mm} {w : World} (hh : HeapOk F M hp w) {i n sz : Nat} {ad : Addr} {m c : Nat} {e' : TypeId} {cs : List T} (hi : hp[i]? = some (.row (.slice (some ad) m c) e' sz n cs)) :
    ∃ xs, RTs M cs xs ∧ ∀ j x, xs[j]? = some x → w.cell? (ad.add j) = some x := by
  obtain ⟨xs, ho, hx, _⟩ := hh.at_ i _ hi
  exact ⟨xs, hx, ho.cells⟩
theorem lo_load_e1 (hL : TabOk P L) {t : TypeId} {ti : TI} {x : Operand} {i off n sz : Nat} {v : Value} {e' : TypeId} {cs : List T} {u : T} (hx : ρ x = .eptr i v off) (hi : hp[i]? = some (.row v e' sz n cs)) (ht : L.look t = some ti) (ha : ti.agg = false) (hv : cs[off]? = some u) (h : K (.c u) hp) : LO P F ⟨d, .load t x, ty, pos, aft, g⟩ ρ hp K := by
  refine LO.same (fun M e w he hh => ?_) h
  have h1 := he x (by first | (simp [Op.operands]; done) | simp [Op.operands, Call.operands])
  rw [hx] at h1
  simp only [RA] at h1
  obtain ⟨ad, n', c, rfl, hu⟩ := h1
  obtain ⟨xs, hxs, hat⟩ := own_load hh hi
  obtain ⟨u', hu1, hu2⟩ := hxs.get hv
  refine ⟨u', ?_, by simp only [RA]; exact hu2⟩
  simp [execOp, Instr.loadAt, hu, Instr.sureAddr, loadVar, hL.isAgg ht, ha, hat off u' hu1]
theorem lo_len (hL : TabOk P L) {t el : TypeId} {ti : TI} {x : Operand} {n sz : Nat} {cs : List T} (hx : ρ x = .c (.row n sz cs)) (ht : L.look t = some ti) (hd : ti.d = .slice el) (h : n ≤ 9223372036854775807 → K (.c (.lit (.int .i64 n))) hp) : LO P F ⟨d, .call { callee := .builtin .len, args := #[x], argTypes := #[t] }, ty, pos, aft, g⟩ ρ hp K := by
  refine ⟨fun M e w he hh => ?_⟩
  have h1 := he x (by first | (simp [Op.operands]; done) | simp [Op.operands, Call.operands])
  rw [hx] at h1
  simp only [RA, RT] at h1
  obtain ⟨A, c, xs, hu, _, hn, _⟩ := h1
  have : (execOp e ⟨d, .call { callee := .builtin .len, args := #[x], argTypes := #[t] }, ty, pos, aft, g⟩).run P w = .ok (.value (.int .i64 n)) w := by
    simp [execOp, resolve, invoke, builtin, Builtin.len_, hu, run_underlying (hL.slice ht hd), goInt]
  rw [this]
  exact ⟨M, _, hp, h hn, Ext.refl _ _, hh, by simp only [RA, RT]⟩
theorem lo_len_own (hL : TabOk P L) {t el : TypeId} {ti : TI} {x : Operand} {i n sz : Nat} {v : Value} {e' : TypeId} {cs : List T} (hx : ρ x = .own i v) (hi : hp[i]? = some (.row v e' sz n cs)) (ht : L.look t = some ti) (hd : ti.d = .slice el) (h : n ≤ 9223372036854775807 → K (.c (.lit (.int .i64 n))) hp) : LO P F ⟨d, .call { callee := .builtin .len, args := #[x], argTypes := #[t] }, ty, pos, aft, g⟩ ρ hp K := by
  refine ⟨fun M e w he hh => ?_⟩
  have h1 := he x (by first | (simp [Op.operands]; done) | simp [Op.operands, Call.operands])
  rw [hx] at h1
  simp only [RA] at h1
  obtain ⟨xs, ho, _⟩ := hh.at_ i _ hi
  obtain ⟨A, c, rfl, hnc, hc⟩ := ownO_shape ho
  have : (execOp e ⟨d, .call { callee := .builtin .len, args := #[x], argTypes := #[t] }, ty, pos, aft, g⟩).run P w = .ok (.value (.int .i64 n)) w := by
    simp [execOp, resolve, invoke, builtin, Builtin.len_, h1.1, run_underlying (hL.slice ht hd), goInt]
  rw [this]
  exact ⟨M, _, hp, h (Nat.le_trans hnc hc), Ext.refl _ _, hh, by simp only [RA, RT]⟩
theorem lo_len_str (hL : TabOk P L) {t : TypeId} {ti : TI} {x : Operand} {s : ByteArray} (hx : ρ x = .c (.lit (.string s))) (ht : L.look t = some ti) (hd : ti.d = .string) (h : K (.c (.lit (.int .i64 s.size))) hp) : LO P F ⟨d, .call { callee := .builtin .len, args := #[x], argTypes := #[t] }, ty, pos, aft, g⟩ ρ hp K := by
  refine LO.same (fun M e w he hh => ?_) h
  have h1 := he x (by first | (simp [Op.operands]; done) | simp [Op.operands, Call.operands])
  rw [hx] at h1
  simp only [RA, RT] at h1
  exact ⟨_, by simp [execOp, resolve, invoke, builtin, Builtin.len_, h1, run_underlying (hL.string ht hd), goInt]; rfl, by simp only [RA, RT]⟩
theorem lo_len_nil (hL : TabOk P L) {t el : TypeId} {ti : TI} {x : Operand} (hx : ρ x = .c (.lit (.slice none 0 0))) (ht : L.look t = some ti) (hd : ti.d = .slice el) (h : K (.c (.lit (.int .i64 0))) hp) : LO P F ⟨d, .call { callee := .builtin .len, args := #[x], argTypes := #[t] }, ty, pos, aft, g⟩ ρ hp K := by
  refine LO.same (fun M e w he hh => ?_) h
  have h1 := he x (by first | (simp [Op.operands]; done) | simp [Op.operands, Call.operands])
  rw [hx] at h1
  simp only [RA, RT] at h1
  exact ⟨_, by simp [execOp, resolve, invoke, builtin, Builtin.len_, h1, run_underlying (hL.slice ht hd), goInt]; rfl, by simp only [RA, RT]⟩
theorem HeapOk.below {M M' : Mm} {w w' : World} (hh : HeapOk F M hp w) (hb : Below w.heap.size w w') (hM : Ext (fr w.heap.size) M M') (hm : MemOk M' w') : HeapOk F M' hp w' :=
  hh.step hp.length hb.os hb.tape hb.output hb.size (fun b hlt _ => hb.block b hlt) hM (fun p v h1 _ => hm p v h1) (fun _ _ => rfl) (fun x' hx' => by rw [List.getElem?_eq_none (Nat.le_refl _)] at hx'; cases hx')
theorem MemOk.below {M : Mm} {w w' : World} (h : MemOk M w) (hb : Below w.heap.size w w') : MemOk M w' := by
  intro p v hp
  obtain ⟨h1, h2⟩ := h p v hp
  exact ⟨(hb.cell (World.block_lt_of_cell? w p h1)).trans h1, h2⟩
mutual
theorem cl_sound {M : Mm} : ∀ (av : AV) (t : T) (u : Value), Rz [] av t → RA M av u → RT M t u
  | .c t, t', u, hz, hr => by
    simp only [Rz] at hz
    simp only [RA] at hr
    rcases hz with rfl | ⟨rfl, sz, h0, rfl⟩
    · exact hr
    · exact rt_nil h0 hr
  | .own i v, t', u, hz, hr => by simp [Rz] at hz
  | .agg cs, t', u, hz, hr => by
    simp only [Rz] at hz
    obtain ⟨ts, rfl, h1⟩ := hz
    simp only [RA] at hr
    obtain ⟨xs, rfl, h2⟩ := hr
    simp only [RT]
    exact ⟨xs, rfl, cls_sound cs ts xs h1 h2⟩
  | .tup cs, t', u, hz, hr => by
    simp only [Rz] at hz
    obtain ⟨ts, rfl, h1⟩ := hz
    simp only [RA] at hr
    obtain ⟨xs, rfl, h2⟩ := hr
    simp only [RT]
    exact ⟨xs, rfl, cls_sound cs ts xs h1 h2⟩
  | .fn f cap, t', u, hz, hr => by
    simp only [Rz] at hz
    obtain ⟨ts, rfl, h1⟩ := hz
    simp only [RA] at hr
    obtain ⟨xs, rfl, h2⟩ := hr
    simp only [RT]
    exact ⟨xs, rfl, cls_sound cap ts xs h1 h2⟩
  | .ptr i b off, t', u, hz, hr => by simp [Rz] at hz
  | .eptr _ _ _, _, _, hz, _ => by simp only [Rz] at hz
  | .junk, _, _, hz, _ => by simp only [Rz] at hz
theorem cls_sound {M : Mm} : ∀ (asq : List AV) (ts : List T) (us : List Value), Rzs [] asq ts → RAs M asq us → RTs M ts us
  | [], ts, us, hz, hr => by
    simp only [Rzs] at hz
    simp only [RAs] at hr
    subst hz; subst hr
    simp only [RTs]
  | a :: asq, ts, us, hz, hr => by
    simp only [Rzs] at hz
    obtain ⟨t, r, rfl, h1, h2⟩ := hz
    simp only [RAs] at hr
    obtain ⟨x, xs, rfl, h3, h4⟩ := hr
    simp only [RTs]
    exact ⟨x, xs, rfl, cl_sound a t x h1 h3, cls_sound asq r xs h2 h4⟩
end
theorem ev_all {M : Mm} {e : Operand → Value} : ∀ xs : List Operand, (∀ x ∈ xs, RA M (ρ x) (e x)) → RAs M (xs.map ρ) (xs.map e)
  | [], _ => by simp [RAs]
  | y :: ys, he => by simp only [List.map_cons, RAs]; exact ⟨_, _, rfl, he y (by simp), ev_all ys fun x hx => he x (by simp [hx])⟩
theorem run_call {f : FuncId} (hf : Enters P f) {e : Operand → Value} {y : Operand} {cs : List Value} (hy : e y = .func (.func f) #[] cs.toArray) (xs : List Operand) (ats : Array TypeId) (w : World) :
    (execOp e ⟨d, .call { callee := .value y, args := xs.toArray, argTypes := ats }, ty, pos, aft, g⟩).run P w = .ok (.enter f (xs.map e ++ cs).toArray) w := by
  obtain ⟨fn, h1, h2, h3⟩ := hf
  simp [execOp, resolve, hy, Deferred.ofValue, invoke, callFunc, h1]
  rw [if_neg (by simpa using h2), if_neg (fun e => by rw [e] at h3; cases h3)]
/-- calling a function -/
theorem lo_call {f : FuncId} {y : Operand} {xs : List Operand} {ats : Array TypeId} {ts : List T} {R : T → Prop} {cap : List AV} (hc : AF P f ts R) (hy : ρ y = .fn (.func f) cap) (hx : Rzs [] (xs.map ρ ++ cap) ts) (h : ∀ r, R r → K (.c r) hp) : LO P F ⟨d, .call { callee := .value y, args := xs.toArray, argTypes := ats }, ty, pos, aft, g⟩ ρ hp K := by
  refine ⟨fun M e w he hh => ?_⟩
  obtain ⟨hf, hcall⟩ := hc
  have h1 := he y (by first | (simp [Op.operands]; done) | simp [Op.operands, Call.operands])
  rw [hy] at h1
  simp only [RA] at h1
  obtain ⟨cs, hu, hcs⟩ := h1
  rw [run_call hf hu]
  have hargs := cls_sound _ _ _ hx ((ev_all xs (fun x hx => he x (by simp [Op.operands, Call.operands, hx]))).app hcs)
  refine (hcall M w _ hh.glob hh.mem hargs).mono ?_
  rintro en w' ⟨v, r, M', rfl, hR, hext, hm, hrt, hb⟩
  exact ⟨v, rfl, M', _, hp, h r hR, (hext.low hh.frm.size), hh.below hb hext hm, by simp only [RA]; exact hrt⟩
mutual
def flatT : T → Bool
  | .lit _ => true
  | .agg ts => flatTs ts
  | .tup ts => flatTs ts
  | _ => false
def flatTs : List T → Bool
  | [] => true
  | t :: ts => flatT t && flatTs ts
end
mutual
theorem flat_any {M M' : Mm} : ∀ (t : T) (u : Value), flatT t = true → RT M t u → RT M' t u
  | .lit v, u, _, h => by simpa only [RT] using h
  | .agg ts, u, hf, h => by
    simp only [RT] at h ⊢
    obtain ⟨xs, h1, h2⟩ := h
    exact ⟨xs, h1, flats_any ts xs (by simpa [flatT] using hf) h2⟩
  | .tup ts, u, hf, h => by
    simp only [RT] at h ⊢
    obtain ⟨xs, h1, h2⟩ := h
    exact ⟨xs, h1, flats_any ts xs (by simpa [flatT] using hf) h2⟩
  | .row _ _ _, _, hf, _ => by simp [flatT] at hf
  | .fn _ _, _, hf, _ => by simp [flatT] at hf
  | .pin _ _, _, hf, _ => by simp [flatT] at hf
theorem flats_any {M M' : Mm} : ∀ (ts : List T) (us : List Value), flatTs ts = true → RTs M ts us → RTs M' ts us
  | [], us, _, h => by simpa only [RTs] using h
  | t :: ts, us, hf, h => by
    simp only [flatTs, Bool.and_eq_true] at hf
    simp only [RTs] at h ⊢
    obtain ⟨x, r, e, h1, h2⟩ := h
    exact ⟨x, r, e, flat_any t x hf.1 h1, flats_any ts r hf.2 h2⟩
end
theorem row_rd {M : Mm} {w : World} (hm : MemOk M w) {n sz : Nat} {cs : List T} {u : Value} (h : RT M (.row n sz cs) u) : ∃ A c xs, u = .slice A n c ∧ n ≤ maxLen ∧ Rd w w.heap.size sz A n xs ∧ RTs M cs xs ∧ OneAll xs := by
  simp only [RT] at h
  obtain ⟨A, c, xs, rfl, _, hn, hsz, hl, hA, hx⟩ := h
  refine ⟨A, c, xs, rfl, hn, ⟨hl, fun h0 => ?_⟩, hx, fun x hx => ?_⟩
  · obtain ⟨ad, rfl, hat⟩ := hA h0
    have h0l : 0 < xs.length := by rw [hl]; exact Nat.mul_pos h0 hsz
    have := World.block_lt_of_cell? w _ (hm _ _ (hat 0 _ (List.getElem?_eq_getElem h0l))).1
    rw [add_block] at this
    exact ⟨ad, rfl, this, fun j u hu => (hm _ _ (hat j u hu)).1⟩
  · obtain ⟨j, hj, rfl⟩ := List.getElem_of_mem hx
    have h0 : 0 < n := by
      rcases Nat.eq_zero_or_pos n with h | h
      · subst h; simp at hl; rw [hl] at hj; simp at hj
      · exact h
    obtain ⟨ad, rfl, hat⟩ := hA h0
    exact (hm _ _ (hat j _ (List.getElem?_eq_getElem hj))).2
theorem mem_fresh {M : Mm} {w : World} (hm : MemOk M w) {p : Addr} (hp : w.heap.size ≤ p.block) : M p = none := by
  cases hc : M p with
  | none => rfl
  | some v => have := World.block_lt_of_cell? w p (hm p v hc).1; omega
theorem run_app (hL : TabOk P L) {t el : TypeId} {ti te : TI} (ht : L.look t = some ti) (hd : ti.d = .slice el) (hte : L.look el = some te) {M : Mm} {w : World} (hm : MemOk M w) (hsz : 0 < te.size) {v u : Value} {n m : Nat} {xs : List Value} {ts : List T} (hown : OwnsO w el te.size v n xs) (hu : RT M (.row m te.size ts) u)
    (h63 : n + m ≤ maxLen) (hbytes : (n + m) * te.bytes ≤ 140737488355328) :
    ∃ v' w' ys, (Builtin.append_ #[t, t] ty #[v, u]).run P w = .ok v' w' ∧ OwnsO w' el te.size v' (n + m) (xs ++ ys) ∧ RTs M ts ys ∧ OneAll ys ∧ w.grownBy w' v.ownBlock ∧ (v'.ownBlock = v.ownBlock ∨ v'.ownBlock = some w.heap.size) := by
  obtain ⟨inf, z, h1, h2, h3, h4, h5, h6, _⟩ := hL.info hte
  obtain ⟨A, c, ys, rfl, _, hrd, hys, hone⟩ := row_rd hm hu
  have hsrc : Src P inf.size t (.slice A m c) m ys w := by
    rcases Nat.eq_zero_or_pos m with h0 | h0
    · subst h0
      have : ys = [] := List.eq_nil_of_length_eq_zero (by simpa using hrd.1)
      subst this
      exact ⟨.inl ⟨el, hL.slice ht hd⟩, fun _ => rfl, by cases A <;> simp [Builtin.firstCells, loadCells, loadCellsFrom], by cases A <;> simp [Builtin.firstCells, loadCells, loadCellsFrom], by simp, fun _ h => by cases h⟩
    · obtain ⟨ad, rfl, _, hc⟩ := hrd.2 h0
      exact Src.ofSlice w (hL.slice ht hd) ad m c ys (by rw [h2]; exact hrd.1) hc hone
  obtain ⟨v', w', g1, g2, g3, g4⟩ := run_append_o (P := P) w t t ty el inf z te.size te.bytes (hL.slice ht hd) h1 h4 h2 h3 h6.1 hsz v n xs hown _ m ys hsrc h63 hbytes
  exact ⟨v', w', ys, g1, g2, hys, hone, g3, g4⟩
theorem own_one {w : World} {sz n : Nat} {e : TypeId} {v : Value} {xs : List Value} (h : OwnsO w e sz v n xs) : v.oneCell' = true := by
  obtain ⟨A, c, rfl, _⟩ := ownO_shape h
  rfl
theorem OneAll.app {xs ys : List Value} (h : OneAll xs) (h' : OneAll ys) : OneAll (xs ++ ys) := fun x hx => (List.mem_append.1 hx).elim (h x) (h' x)
theorem exec_append {e : Operand → Value} {x y : Operand} {t : TypeId} (w : World) {v' : Value} {w' : World} (h : (Builtin.append_ #[t, t] ty #[e x, e y]).run P w = .ok v' w') :
    (execOp e ⟨d, .call { callee := .builtin .append, args := #[x, y], argTypes := #[t, t] }, ty, pos, aft, g⟩).run P w = .ok (.value v') w' := by
  simp [execOp, resolve, invoke, builtin, h]
theorem lo_app (hL : TabOk P L) {t el : TypeId} {ti te : TI} {x y : Operand} {i n m sz : Nat} {v : Value} {cs ts : List T} (hx : ρ x = .own i v) (hi : hp[i]? = some (.row v el sz n cs)) (hy : ρ y = .c (.row m sz ts)) (ht : L.look t = some ti) (hd : ti.d = .slice el) (hte : L.look el = some te) (hsz : te.size = sz) (h63 : n + m ≤ maxLen) (hbytes : (n + m) * te.bytes ≤ 140737488355328)
    (h : ∀ v', K (.own i v') (hp.set i (.row v' el sz (n + m) (cs ++ ts)))) : LO P F ⟨d, .call { callee := .builtin .append, args := #[x, y], argTypes := #[t, t] }, ty, pos, aft, g⟩ ρ hp K := by
  subst hsz
  refine ⟨fun M e w he hh => ?_⟩
  have h1 := he x (by first | (simp [Op.operands]; done) | simp [Op.operands, Call.operands])
  rw [hx] at h1
  simp only [RA] at h1
  have h2 := he y (by first | (simp [Op.operands]; done) | simp [Op.operands, Call.operands])
  rw [hy] at h2
  simp only [RA] at h2
  obtain ⟨xs, ho, hxs, hone, hsz⟩ := hh.at_ i _ hi
  obtain ⟨v', w', ys, g1, g2, g3, g4, g5, g6⟩ := run_app (ty := ty) hL ht hd hte hh.mem hsz ho h2 h63 hbytes
  rw [← h1.1] at g1
  rw [exec_append w g1]
  refine ⟨M, _, _, h v', Ext.refl _ _, ?_, by simp only [RA]; exact ⟨trivial, own_one g2⟩⟩
  refine hh.step i g5.os g5.tape g5.output g5.size (fun k hk hne => g5.block k hk (fun e => hne _ hi e.symm)) (Ext.refl _ _) (fun p v h1 h2 => by rw [h2] at h1; cases h1) (fun j hj => by rw [List.getElem?_set_ne (Ne.symm hj)]) (fun x' hx' => ?_)
  have hlt : i < hp.length := (List.getElem?_eq_some_iff.1 hi).1
  rw [List.getElem?_set_self hlt] at hx'
  obtain rfl : Blk.row v' el te.size (n + m) (cs ++ ts) = x' := by injection hx'
  refine ⟨⟨_, g2, hxs.app g3, hone.app g4, hsz⟩, fun b hb => ?_⟩
  rcases g6 with g6 | g6
  · exact .inl ⟨_, hi, by simpa [Blk.blk, g6] using hb⟩
  · obtain rfl : w.heap.size = b := by simpa [Blk.blk, g6] using hb
    exact .inr ⟨Nat.le_refl _, fun p hp => mem_fresh hh.mem (by omega)⟩
theorem push_row {M M' : Mm} {w w' : World} (hh : HeapOk F M hp w) (hos : w'.os = w.os) (htape : w'.tape = w.tape) (hout : w'.output = w.output) (hsz : w.heap.size ≤ w'.heap.size) (hblk : ∀ b, b < w.heap.size → w'.heap[b]? = w.heap[b]?)
    (hM : Ext (fr w.heap.size) M M') (hnew : ∀ p v, M' p = some v → M p = none → w'.cell? p = some v ∧ v.oneCell' = true) {x : Blk} (hx : BlkOk M' w' x) (hxb : ∀ b, x.blk = some b → w.heap.size ≤ b ∧ ∀ p : Addr, p.block = b → M' p = none) : HeapOk F M' (hp ++ [x]) w' := by
  refine hh.step hp.length hos htape hout hsz (fun b hb _ => hblk b hb) hM hnew (fun j hj => ?_) (fun x' hx' => ?_)
  · rcases Nat.lt_or_ge j hp.length with h | h
    · rw [List.getElem?_append_left h]
    · rw [List.getElem?_eq_none (by simp; omega), List.getElem?_eq_none (by omega)]
  · have : x' = x := by simpa using hx'.symm
    subst this
    exact ⟨hx, fun b hb => .inr (hxb b hb)⟩
end
end Go.Proofs.YthloejmmgdjimaaDoor
namespace Go.Proofs.YthloejmmgdjimaaDoor
open Go.RowKit
theorem str_toList (s : ByteArray) : s.toList = s.data.toList := ByteArray.toList_eq s
theorem str_eq {a b : ByteArray} : (a.toList == b.toList) = decide (a = b) := by
  by_cases h : a = b
  · subst h; simp
  · have : ¬ a.toList = b.toList := fun e => h (ByteArray.ext (Array.toList_inj.1 (by rwa [str_toList, str_toList] at e)))
    simp [h, this]
section
variable {P : Program} {F : Frm} {L : Tab} {d : Option Tmp} {ty : TypeId} {pos : String} {aft : Array Edge} {g : Option (Nat × Bool)} {ρ : Operand → AV} {hp : List Blk} {K : AV → List Blk → Prop}
/-- an operation on two literals -/
theorem lo_bin {op : BinOp} {t t' : TypeId} {x y : Operand} {a b v : Value} (hx : ρ x = .c (.lit a)) (hy : ρ y = .c (.lit b)) (hg : ∀ w, (eqGuard op t x y a b).run P w = .ok () w) (hr : ∀ w, (binOp op t a b).run P w = .ok v w) (h : K (.c (.lit v)) hp) : LO P F ⟨d, .binOp op t x y t', ty, pos, aft, g⟩ ρ hp K := by
  refine LO.same (fun M e w he hh => ?_) h
  have h1 := he x (by first | (simp [Op.operands]; done) | simp [Op.operands, Call.operands])
  rw [hx] at h1
  simp only [RA, RT] at h1
  have h2 := he y (by first | (simp [Op.operands]; done) | simp [Op.operands, Call.operands])
  rw [hy] at h2
  simp only [RA, RT] at h2
  exact ⟨v, by simp [execOp, h1, h2, hg, hr], by simp only [RA, RT]⟩
theorem guard_int {op : BinOp} {t : TypeId} {x y : Operand} {k k' : IntKind} {a b : Int} (w : World) : (eqGuard op t x y (.int k a) (.int k' b)).run P w = .ok () w := by
  unfold eqGuard; simp
theorem guard_str {op : BinOp} {t : TypeId} {x y : Operand} {a b : ByteArray} (w : World) : (eqGuard op t x y (.string a) (.string b)).run P w = .ok () w := by
  unfold eqGuard; simp
theorem guard_bool {op : BinOp} {t : TypeId} {x y : Operand} {a b : Bool} (w : World) : (eqGuard op t x y (.bool a) (.bool b)).run P w = .ok () w := by
  unfold eqGuard; simp
variable {t t' : TypeId} {x y : Operand} {k : IntKind} {a b : Int}
theorem lo_lss (hx : ρ x = .c (.lit (.int k a))) (hy : ρ y = .c (.lit (.int k b))) (h : K (.c (.lit (.bool (decide (a < b))))) hp) : LO P F ⟨d, .binOp .lss t x y t', ty, pos, aft, g⟩ ρ hp K :=
  lo_bin hx hy guard_int (fun w => by simp [binOp, Op.intCmp]) h
theorem lo_leq (hx : ρ x = .c (.lit (.int k a))) (hy : ρ y = .c (.lit (.int k b))) (h : K (.c (.lit (.bool (decide (a ≤ b))))) hp) : LO P F ⟨d, .binOp .leq t x y t', ty, pos, aft, g⟩ ρ hp K :=
  lo_bin hx hy guard_int (fun w => by simp [binOp, Op.intCmp]) h
theorem lo_gtr (hx : ρ x = .c (.lit (.int k a))) (hy : ρ y = .c (.lit (.int k b))) (h : K (.c (.lit (.bool (decide (b < a))))) hp) : LO P F ⟨d, .binOp .gtr t x y t', ty, pos, aft, g⟩ ρ hp K :=
  lo_bin hx hy guard_int (fun w => by simp [binOp, Op.intCmp]) h
theorem lo_geq (hx : ρ x = .c (.lit (.int k a))) (hy : ρ y = .c (.lit (.int k b))) (h : K (.c (.lit (.bool (decide (b ≤ a))))) hp) : LO P F ⟨d, .binOp .geq t x y t', ty, pos, aft, g⟩ ρ hp K :=
  lo_bin hx hy guard_int (fun w => by simp [binOp, Op.intCmp]) h
theorem lo_eql (hx : ρ x = .c (.lit (.int k a))) (hy : ρ y = .c (.lit (.int k b))) (h : K (.c (.lit (.bool (decide (a = b))))) hp) : LO P F ⟨d, .binOp .eql t x y t', ty, pos, aft, g⟩ ρ hp K :=
  lo_bin hx hy guard_int (fun w => by simp [binOp, Op.intCmp]; rfl) h
theorem lo_neq (hx : ρ x = .c (.lit (.int k a))) (hy : ρ y = .c (.lit (.int k b))) (h : K (.c (.lit (.bool (!decide (a = b))))) hp) : LO P F ⟨d, .binOp .neq t x y t', ty, pos, aft, g⟩ ρ hp K :=
  lo_bin hx hy guard_int (fun w => by simp [binOp, Op.intCmp]; rfl) h
theorem lo_add (hx : ρ x = .c (.lit (.int k a))) (hy : ρ y = .c (.lit (.int k b))) {r : Int} (hr : k.wrap (a + b) = r) (h : K (.c (.lit (.int k r))) hp) : LO P F ⟨d, .binOp .add t x y t', ty, pos, aft, g⟩ ρ hp K :=
  lo_bin hx hy guard_int (fun w => by simp [binOp, Op.intArith, hr]) h
/-- the next number: no bound is passed -/
theorem lo_inc {n : Nat} (hx : ρ x = .c (.lit (.int .i64 n))) (hy : ρ y = .c (.lit (.int .i64 1))) (hb : n < 9223372036854775807) (h : K (.c (.lit (.int .i64 ((n + 1 : Nat) : Int)))) hp) : LO P F ⟨d, .binOp .add t x y t', ty, pos, aft, g⟩ ρ hp K :=
  lo_add hx hy (by rw [IntWalk.i64_in _ (by omega)]; omega) h
variable {s s' : ByteArray}
theorem lo_eqs (hx : ρ x = .c (.lit (.string s))) (hy : ρ y = .c (.lit (.string s'))) (h : K (.c (.lit (.bool (decide (s = s'))))) hp) : LO P F ⟨d, .binOp .eql t x y t', ty, pos, aft, g⟩ ρ hp K :=
  lo_bin hx hy guard_str (fun w => by simp only [binOp, Op.stringOp, str_eq, Sem.run_pure]) h
theorem lo_nes (hx : ρ x = .c (.lit (.string s))) (hy : ρ y = .c (.lit (.string s'))) (h : K (.c (.lit (.bool (!decide (s = s'))))) hp) : LO P F ⟨d, .binOp .neq t x y t', ty, pos, aft, g⟩ ρ hp K :=
  lo_bin hx hy guard_str (fun w => by simp only [binOp, Op.stringOp, str_eq, Sem.run_pure]) h
theorem lo_cat (hx : ρ x = .c (.lit (.string s))) (hy : ρ y = .c (.lit (.string s'))) (hb : s.size + s'.size ≤ 9223372036854775807) (h : K (.c (.lit (.string (s ++ s')))) hp) : LO P F ⟨d, .binOp .add t x y t', ty, pos, aft, g⟩ ρ hp K :=
  lo_bin hx hy guard_str (fun w => by
    have : ¬ ((s.size + s'.size : Nat) : Int) > IntKind.i64.max := by simp [IntKind.max, IntKind.signed, IntKind.bits]; omega
    simp only [binOp, Op.stringOp, if_neg this, Sem.run_pure]) h
def strLt (a b : ByteArray) : Bool := Op.bytesLess a.toList b.toList
theorem lo_lts (hx : ρ x = .c (.lit (.string s))) (hy : ρ y = .c (.lit (.string s'))) (h : K (.c (.lit (.bool (strLt s s')))) hp) : LO P F ⟨d, .binOp .lss t x y t', ty, pos, aft, g⟩ ρ hp K :=
  lo_bin hx hy guard_str (fun w => by simp only [binOp, Op.stringOp, strLt, Sem.run_pure]) h
theorem lo_gts (hx : ρ x = .c (.lit (.string s))) (hy : ρ y = .c (.lit (.string s'))) (h : K (.c (.lit (.bool (!(strLt s s' || decide (s = s')))))) hp) : LO P F ⟨d, .binOp .gtr t x y t', ty, pos, aft, g⟩ ρ hp K :=
  lo_bin hx hy guard_str (fun w => by simp only [binOp, Op.stringOp, strLt, str_eq, Sem.run_pure]) h
theorem lo_les (hx : ρ x = .c (.lit (.string s))) (hy : ρ y = .c (.lit (.string s'))) (h : K (.c (.lit (.bool (strLt s s' || decide (s = s'))))) hp) : LO P F ⟨d, .binOp .leq t x y t', ty, pos, aft, g⟩ ρ hp K :=
  lo_bin hx hy guard_str (fun w => by simp only [binOp, Op.stringOp, strLt, str_eq, Sem.run_pure]) h
theorem lo_ges (hx : ρ x = .c (.lit (.string s))) (hy : ρ y = .c (.lit (.string s'))) (h : K (.c (.lit (.bool (!strLt s s')))) hp) : LO P F ⟨d, .binOp .geq t x y t', ty, pos, aft, g⟩ ρ hp K :=
  lo_bin hx hy guard_str (fun w => by simp only [binOp, Op.stringOp, strLt, Sem.run_pure]) h
theorem lo_not {c : Bool} (hx : ρ x = .c (.lit (.bool c))) (h : K (.c (.lit (.bool !c))) hp) : LO P F ⟨d, .unOp .not t x, ty, pos, aft, g⟩ ρ hp K := by
  refine LO.same (fun M e w he hh => ?_) h
  have h1 := he x (by first | (simp [Op.operands]; done) | simp [Op.operands, Call.operands])
  rw [hx] at h1
  simp only [RA, RT] at h1
  exact ⟨_, by simp [execOp, h1, Op.unary]; rfl, by simp only [RA, RT]⟩
end
end Go.Proofs.YthloejmmgdjimaaDoor
namespace Go.Proofs.YthloejmmgdjimaaDoor
open Go.RowKit
/-- parts laid into cells -/
def fillA (pl : Nat → Option (Nat × Nat)) (cs : List AV) : List (Nat × AV) → Option (List AV)
  | [] => some cs
  | (i, v) :: rest =>
    match pl i with
    | none => none
    | some (off, size) => cond (Nat.beq (cellsA v).length size && Nat.ble (off + size) cs.length && allOne (cellsA v)) (fillA pl (spl cs off (cellsA v)) rest) none
theorem foldl_spl : ∀ (vs : List Value) (off k : Nat) (cs : Array Value), (vs.zipIdx k).foldl (fun cs (p : Value × Nat) => cs.setIfInBounds (off + p.2) p.1) cs = (spl cs.toList (off + k) vs).toArray
  | [], off, k, cs => by simp [spl]
  | v :: vs, off, k, cs => by
    simp only [List.zipIdx_cons, List.foldl_cons, spl]
    rw [foldl_spl vs off (k + 1)]
    simp [Nat.add_assoc]
theorem fill_sound {M : Mm} {pl pl' : Nat → Option (Nat × Nat)} (hpl : ∀ i p, pl i = some p → pl' i = some p) {ρ : Operand → AV} {e : Operand → Value} : ∀ {parts : List (Nat × Operand)} {cs cs' : List AV} {xs : List Value}, (∀ p ∈ parts, RA M (ρ p.2) (e p.2)) → RAs M cs xs → OneAll xs → fillA pl cs (parts.map fun p => (p.1, ρ p.2)) = some cs' →
    ∃ ys : List Value, Instr.fill pl' xs.toArray (parts.map fun p => (p.1, e p.2)) = some ys.toArray ∧ RAs M cs' ys ∧ OneAll ys ∧ ys.length = xs.length
  | [], cs, cs', xs, _, hx, h1, hf => by
    simp only [List.map_nil, fillA, Option.some.injEq] at hf
    subst hf
    exact ⟨xs, rfl, hx, h1, rfl⟩
  | (i, o) :: parts, cs, cs', xs, he, hx, h1, hf => by
    simp only [List.map_cons, fillA] at hf
    cases hp : pl i with
    | none => rw [hp] at hf; cases hf
    | some p =>
      obtain ⟨off, size⟩ := p
      rw [hp] at hf
      simp only at hf
      cases hc : (Nat.beq (cellsA (ρ o)).length size && Nat.ble (off + size) cs.length && allOne (cellsA (ρ o))) with
      | false => rw [hc] at hf; cases hf
      | true =>
        rw [hc] at hf
        simp only [cond_true] at hf
        simp only [Bool.and_eq_true] at hc
        obtain ⟨⟨ha, hb⟩, ho⟩ := hc
        have ha := Nat.eq_of_beq_eq_true ha
        have hb := Nat.le_of_ble_eq_true hb
        obtain ⟨hce, hone⟩ := cells_of (he (i, o) (by simp)) ho
        have hl1 := hce.len
        have hl2 := hx.len
        obtain ⟨ys, g1, g2, g3, g4⟩ := fill_sound hpl (fun p hp => he p (List.mem_cons_of_mem _ hp)) (RAs.spl (k := off) hx hce) (spl_one h1 hone) hf
        refine ⟨ys, ?_, g2, g3, by rw [g4, spl_len]⟩
        have hsz : (e o).cells.size = size := by rw [← ha, ← hl1]; simp
        simp only [List.map_cons, Instr.fill, hpl i _ hp]
        have hnot : (decide ((e o).cells.size ≠ size) || decide (off + (e o).cells.size > xs.toArray.size)) = false := by simp; omega
        rw [if_neg (by simpa using hnot)]
        have := foldl_spl (e o).cells.toList off 0 xs.toArray
        simp only [Nat.add_zero] at this
        rw [← Array.foldl_toList, Array.toList_zipIdx]
        rw [this]
        exact g1
section
variable {P : Program} {F : Frm} {L : Tab} {d : Option Tmp} {ty : TypeId} {pos : String} {aft : Array Edge} {g : Option (Nat × Bool)} {ρ : Operand → AV} {hp : List Blk} {K : AV → List Blk → Prop}
theorem RAs.lits {M : Mm} : ∀ l : List Value, RAs M (l.map fun v => .c (.lit v)) l
  | [] => by simp [RAs]
  | v :: l => by simp only [List.map_cons, RAs, RA, RT]; exact ⟨v, l, rfl, rfl, RAs.lits l⟩
theorem mapM_sizes (w : World) : ∀ (fields : List Field), (∀ f ∈ fields, ∃ s, (P.info? f.type).map (·.size) = some s) →
    ∃ l : List (Nat × Nat), (fields.mapM fun f => (do pure (f.offset, ← Go.sizeOf f.type) : Sem (Nat × Nat))).run P w = .ok l w ∧ ∀ (k : Nat) (f : Field) (s : Nat), fields[k]? = some f → (P.info? f.type).map (·.size) = some s → l[k]? = some (f.offset, s)
  | [], _ => ⟨[], rfl, fun k f s h => by simp at h⟩
  | f :: fields, h => by
    obtain ⟨l, h1, h2⟩ := mapM_sizes w fields fun f hf => h f (List.mem_cons_of_mem _ hf)
    obtain ⟨s, hs⟩ := h f (by simp)
    cases hi : P.info? f.type with
    | none => rw [hi] at hs; cases hs
    | some inf =>
      refine ⟨(f.offset, inf.size) :: l, ?_, fun k f' s' hk hs' => ?_⟩
      · simp only [List.mapM_cons, Sem.run_bind, Go.sizeOf, typeInfo, run_program, Result.andThen_ok, hi, Sem.run_pure] at h1 ⊢
        rw [h1]
        rfl
      · cases k with
        | zero =>
          obtain rfl : f = f' := by simpa using hk
          rw [hi] at hs'
          simp only [Option.map_some, Option.some.injEq] at hs'
          simp [hs']
        | succ k => exact h2 k f' s' (by simpa using hk) hs'
theorem flds_all : ∀ {l : List Field} {r : List (Nat × Nat)}, fldsB P l r = true → ∀ f ∈ l, ∃ s, (P.info? f.type).map (·.size) = some s
  | [], [], _, f, hf => by simp at hf
  | x :: l, (o, s) :: r, hb, f, hf => by
    simp only [fldsB, Bool.and_eq_true, beq_iff_eq] at hb
    rcases List.mem_cons.1 hf with rfl | hf
    · exact ⟨s, hb.1.2⟩
    · exact flds_all hb.2 f hf
  | [], _ :: _, hb, _, _ => by cases hb
  | _ :: _, [], hb, _, _ => by cases hb
theorem lo_build (hL : TabOk P L) {t : TypeId} {ti : TI} {fs : List (Nat × Nat)} {parts : List (Nat × Operand)} {cs : List AV} (ht : L.look t = some ti) (hd : ti.d = .struct fs) (hf : fillA (fun i => fs[i]?) (ti.zero.map fun v => .c (.lit v)) (parts.map fun p => (p.1, ρ p.2)) = some cs) (h : K (.agg cs) hp) : LO P F ⟨d, .build t parts.toArray, ty, pos, aft, g⟩ ρ hp K := by
  refine LO.same (fun M e w he hh => ?_) h
  obtain ⟨z, hz, hzc, _, hone⟩ := hL.zero ht
  obtain ⟨dd, h1, h2⟩ := hL.desc ht
  rw [hd] at h2
  cases dd <;> simp [descB] at h2
  rename_i fields
  obtain ⟨pl, hpl1, hpl2⟩ := mapM_sizes w fields.toList (flds_all h2)
  obtain ⟨ys, g1, g2, _, _⟩ := fill_sound (pl' := fun i => pl[i]?) (fun i p hp => by
    obtain ⟨o, s⟩ := p
    obtain ⟨f, h3, h4, h5⟩ := flds_get h2 hp
    rw [hpl2 i f s h3 h5, h4]) (fun p hp => he p.2 (by simp only [Op.operands]; exact List.mem_map.2 ⟨p, by simpa using hp, rfl⟩)) (RAs.lits (M := M) ti.zero) hone hf
  refine ⟨.agg ys.toArray, ?_, by simp only [RA]; exact ⟨ys, rfl, g2⟩⟩
  have hz' : z.cells = ti.zero.toArray := by rw [← hzc]
  have hm : (fields.mapM fun f => (do pure (f.offset, ← Go.sizeOf f.type) : Sem (Nat × Nat))).run P w = .ok pl.toArray w := by
    rw [Array.mapM_eq_mapM_toList, Sem.run_map, hpl1]
    rfl
  simp only [execOp, Instr.build, Sem.run_bind, hz, run_underlying h1, Result.andThen_ok]
  rw [hm]
  simp only [Result.andThen_ok, hz', List.getElem?_toArray]
  simp only [List.map_toArray]
  rw [show (fun x : Nat × Operand => match x with | (i, x) => (i, e x)) = (fun p : Nat × Operand => (p.1, e p.2)) from rfl]
  rw [g1]
  rfl
theorem repl_cells (z : Array Value) (n : Nat) (sz : Nat) (hz : z.size = sz) (h0 : 0 < sz) : (Array.range (n * sz)).map (fun x => z[x % z.size]!) = ((List.range (n * sz)).map fun j => z.toList.getD (j % sz) undef).toArray := by
  apply Array.ext'
  simp only [Array.toList_map, Array.toList_range]
  apply List.map_congr_left
  intro j _
  have : j % sz < z.size := by rw [hz]; exact Nat.mod_lt _ h0
  rw [hz, getElem!_pos z _ this]
  simp [List.getD_eq_getElem?_getD, this]
theorem lo_bslice0 (hL : TabOk P L) {t el : TypeId} {ti te : TI} {n : Nat} {parts : List (Nat × Operand)} {cs : List AV} (ht : L.look t = some ti) (hd : ti.d = .slice el) (hte : L.look el = some te) (h0 : Nat.ble 1 te.size = true) (hn : Nat.ble (n * te.size) 16777216 = true)
    (hf : fillA (fun i => some (i * te.size, te.size)) ((List.range (n * te.size)).map fun j => .c (.lit (te.zero.getD (j % te.size) undef))) (parts.map fun p => (p.1, ρ p.2)) = some cs) {M : Mm} {e : Operand → Value} {w : World} (he : ∀ p ∈ parts, RA M (ρ p.2) (e p.2)) :
    ∃ ys : List Value, (execOp e ⟨d, .buildSlice t n parts.toArray, ty, pos, aft, g⟩).run P w = .ok (.value (.slice (some ⟨w.heap.size, 0, none⟩) n n)) (w.alloc (.cells ys.toArray el)) ∧ RAs M cs ys ∧ OneAll ys ∧ ys.length = n * te.size := by
  obtain ⟨z, hz, hzc, hzs, hone⟩ := hL.zero hte
  have h0' := Nat.le_of_ble_eq_true h0
  have hn' := Nat.le_of_ble_eq_true hn
  have hzl : te.zero.length = te.size := by rw [← hzc, ← hzs]; simp
  have hx0 : RAs M ((List.range (n * te.size)).map fun j => AV.c (.lit (te.zero.getD (j % te.size) undef))) ((List.range (n * te.size)).map fun j => te.zero.getD (j % te.size) undef) := by
    have := RAs.lits (M := M) ((List.range (n * te.size)).map fun j => te.zero.getD (j % te.size) undef)
    simpa [List.map_map, Function.comp_def] using this
  have ho0 : OneAll ((List.range (n * te.size)).map fun j => te.zero.getD (j % te.size) undef) := by
    intro x hx
    simp only [List.mem_map, List.mem_range] at hx
    obtain ⟨j, _, rfl⟩ := hx
    have : j % te.size < te.zero.length := by rw [hzl]; exact Nat.mod_lt _ h0'
    rw [List.getD_eq_getElem?_getD, List.getElem?_eq_getElem this]
    exact hone _ (List.getElem_mem _)
  obtain ⟨ys, g1, g2, g3, g4⟩ := fill_sound (pl' := fun i => some (i * te.size, te.size)) (fun i p hp => hp) he hx0 ho0 hf
  refine ⟨ys, ?_, g2, g3, by rw [g4]; simp⟩
  have hcell : (Array.range (n * te.size)).map (fun x => z.cells[x % z.cells.size]!) = ((List.range (n * te.size)).map fun j => te.zero.getD (j % te.size) undef).toArray := by
    rw [repl_cells z.cells n te.size hzs h0', hzc]
  have hbig : ¬ n * te.size > 2 ^ 24 := by omega
  simp only [execOp, Instr.buildSlice, Sem.run_bind, run_underlying (hL.slice ht hd), Result.andThen_ok, hL.sizeOf hte, if_neg hbig, Sem.run_pure, List.map_toArray]
  rw [show (fun x : Nat × Operand => match x with | (i, x) => (i, e x)) = (fun p : Nat × Operand => (p.1, e p.2)) from rfl]
  by_cases hnz : n * te.size = 0
  · have hr0 : Array.range 0 = #[] := rfl
    rw [hnz] at g1
    simp only [List.range_zero, List.map_nil] at g1
    simp [hnz, hr0, g1, newRow]
  · simp only [hnz, if_false, Sem.run_bind, hz, Sem.run_pure, Result.andThen_ok, hcell, g1]
    simp [newRow]
theorem lo_bslice (hL : TabOk P L) {t el : TypeId} {ti te : TI} {n : Nat} {parts : List (Nat × Operand)} {cs : List AV} {ts : List T} (ht : L.look t = some ti) (hd : ti.d = .slice el) (hte : L.look el = some te) (h0 : Nat.ble 1 te.size = true) (hn : Nat.ble (n * te.size) 16777216 = true)
    (hf : fillA (fun i => some (i * te.size, te.size)) ((List.range (n * te.size)).map fun j => .c (.lit (te.zero.getD (j % te.size) undef))) (parts.map fun p => (p.1, ρ p.2)) = some cs) (hz : Rzs [] cs ts) (h : K (.c (.row n te.size ts)) hp) : LO P F ⟨d, .buildSlice t n parts.toArray, ty, pos, aft, g⟩ ρ hp K := by
  refine ⟨fun M e w he hh => ?_⟩
  obtain ⟨ys, hr, hy, hone, hl⟩ := lo_bslice0 (d := d) (ty := ty) (pos := pos) (aft := aft) (g := g) hL ht hd hte h0 hn hf (fun p hp => he p.2 (by simp only [Op.operands]; exact List.mem_map.2 ⟨p, by simpa using hp, rfl⟩)) (w := w)
  rw [hr]
  have hyt := cls_sound _ _ _ hz hy
  have hb : Below w.heap.size w (w.alloc (.cells ys.toArray el)) := (Below.refl _ _).alloc (Nat.le_refl _) _
  have hm0 := hh.mem.below hb
  have hM := frz_ext (M := M) w.heap.size (w.alloc (.cells ys.toArray el))
  refine ⟨frz M w.heap.size (w.alloc (.cells ys.toArray el)), _, hp, h, (hM.low hh.frm.size), hh.below hb hM (frz_ok hm0 _), ?_⟩
  have h0' := Nat.le_of_ble_eq_true h0
  have hn' := Nat.le_of_ble_eq_true hn
  have hnm : n ≤ maxLen := by
    have : n ≤ n * te.size := Nat.le_mul_of_pos_right n h0'
    unfold maxLen; omega
  simp only [RA, RT]
  refine ⟨_, _, ys, rfl, Nat.le_refl _, hnm, h0', hl, fun _ => ⟨_, rfl, fun j x hj => ?_⟩, RTs.mono hM.sub _ _ hyt⟩
  have hadd : (⟨w.heap.size, 0, none⟩ : Addr).add j = ⟨w.heap.size, j, none⟩ := by rw [box_add]; simp
  rw [hadd]
  refine frz_new (mem_fresh hh.mem (Nat.le_refl _)) (Nat.le_refl _) ?_ (hone x (List.mem_of_getElem? hj))
  rw [World.cell?_alloc_new]
  simpa using hj
theorem lo_bslice_own (hL : TabOk P L) {t el : TypeId} {ti te : TI} {n : Nat} {parts : List (Nat × Operand)} {cs : List AV} {ts : List T} (ht : L.look t = some ti) (hd : ti.d = .slice el) (hte : L.look el = some te) (h0 : Nat.ble 1 te.size = true) (hn : Nat.ble (n * te.size) 16777216 = true)
    (hf : fillA (fun i => some (i * te.size, te.size)) ((List.range (n * te.size)).map fun j => .c (.lit (te.zero.getD (j % te.size) undef))) (parts.map fun p => (p.1, ρ p.2)) = some cs) (hz : Rzs [] cs ts) (h : ∀ v, K (.own hp.length v) (hp ++ [.row v el te.size n ts])) : LO P F ⟨d, .buildSlice t n parts.toArray, ty, pos, aft, g⟩ ρ hp K := by
  refine ⟨fun M e w he hh => ?_⟩
  obtain ⟨ys, hr, hy, hone, hl⟩ := lo_bslice0 (d := d) (ty := ty) (pos := pos) (aft := aft) (g := g) hL ht hd hte h0 hn hf (fun p hp => he p.2 (by simp only [Op.operands]; exact List.mem_map.2 ⟨p, by simpa using hp, rfl⟩)) (w := w)
  rw [hr]
  have h0' := Nat.le_of_ble_eq_true h0
  have hn' := Nat.le_of_ble_eq_true hn
  have hnm : n ≤ maxLen := by
    have : n ≤ n * te.size := Nat.le_mul_of_pos_right n h0'
    unfold maxLen; omega
  have hyt := cls_sound _ _ _ hz hy
  have hown : (w.alloc (.cells ys.toArray el)).ownsRow 0 el te.size (.slice (some ⟨w.heap.size, 0, none⟩) n n) n ys :=
    ⟨hl, .inr ⟨w.heap.size, n, ys.toArray, rfl, Nat.zero_le _, heap_alloc_new w _, Nat.le_refl _, hnm, by simpa using hl, by simp [← hl]⟩⟩
  refine ⟨M, _, _, h (.slice (some ⟨w.heap.size, 0, none⟩) n n), Ext.refl _ _, ?_, by simp only [RA]; exact ⟨trivial, rfl⟩⟩
  refine push_row (w' := w.alloc (.cells ys.toArray el)) (x := .row (.slice (some ⟨w.heap.size, 0, none⟩) n n) el te.size n ts) hh rfl rfl rfl (by simp) (fun b hb => Below.heap_alloc _ _ _ hb) (Ext.refl _ _) (fun p v h1 h2 => by rw [h2] at h1; cases h1) ⟨ys, ownsO_of hown, hyt, hone, h0'⟩ (fun b hb => ?_)
  obtain rfl : w.heap.size = b := by simpa [Blk.blk, Value.ownBlock] using hb
  exact ⟨Nat.le_refl _, fun p hp => mem_fresh hh.mem (by omega)⟩
theorem lo_func {f : Fn} {cap : List Operand} (h : K (.fn f (cap.map ρ)) hp) : LO P F ⟨d, .makeFunc f #[] cap.toArray, ty, pos, aft, g⟩ ρ hp K := by
  refine LO.same (fun M e w he hh => ?_) h
  refine ⟨.func f #[] (cap.map e).toArray, by simp [execOp, Instr.makeFunc], ?_⟩
  simp only [RA]
  exact ⟨_, rfl, ev_all cap (fun x hx => he x (by simp [Op.operands, hx]))⟩
end
end Go.Proofs.YthloejmmgdjimaaDoor
