/-
  Abstract states: the operations on memory.
-/
import Derived.Test.YthgackidonocpaaAb4
namespace Go.Proofs.Ythgackidonocpaa
open Go.RowKit

def oneA : AV → Bool
  | .c (.lit v) => v.oneCell'
  | .c (.row _ _ _) => true
  | .c (.fn _ _) => true
  | .c (.pin _ _) => true
  | .fn _ _ => true
  | .ptr _ _ _ => true
  | .own _ _ => true
  | .eptr _ _ _ => true
  | _ => false
def allOne : List AV → Bool
  | [] => true
  | a :: l => cond (oneA a) (allOne l) false
def cellsA : AV → List AV
  | .agg cs => cs
  | .c (.agg ts) => ts.map .c
  | v => [v]
theorem one_of {M : Mm} {v : AV} {u : Value} (h : RA M v u) (ho : oneA v = true) : u.oneCell' = true := by
  cases v with
  | c t =>
    simp only [RA] at h
    cases t with
    | lit v => simp only [RT] at h; rw [h]; exact ho
    | row n sz cs => simp only [RT] at h; obtain ⟨A, c, xs, rfl, _⟩ := h; rfl
    | fn f cap => simp only [RT] at h; obtain ⟨xs, rfl, _⟩ := h; rfl
    | pin cs off => simp only [RT] at h; obtain ⟨ad, xs, rfl, _⟩ := h; rfl
    | agg cs => simp [oneA] at ho
    | tup cs => simp [oneA] at ho
  | fn f cap => simp only [RA] at h; obtain ⟨xs, rfl, _⟩ := h; rfl
  | ptr i b off => simp only [RA] at h; rw [h]; rfl
  | own i v => simp only [RA] at h; rw [h.1]; exact h.2
  | eptr i v k => simp only [RA] at h; obtain ⟨ad, n, c, _, rfl⟩ := h; rfl
  | agg cs => simp [oneA] at ho
  | tup cs => simp [oneA] at ho
  | junk => simp [oneA] at ho
theorem ones_of {M : Mm} : ∀ {vs : List AV} {us : List Value}, RAs M vs us → allOne vs = true → OneAll us
  | [], _, h, _ => by simp only [RAs] at h; subst h; intro x hx; simp at hx
  | v :: vs, _, h, ho => by
    simp only [RAs] at h
    obtain ⟨x, r, rfl, h1, h2⟩ := h
    simp only [allOne] at ho
    cases hc : oneA v with
    | false => rw [hc] at ho; cases ho
    | true =>
      rw [hc] at ho
      intro y hy
      rcases List.mem_cons.1 hy with rfl | hy
      · exact one_of h1 hc
      · exact ones_of h2 ho y hy
theorem cells_one {v : Value} (h : v.oneCell' = true) : v.cells = #[v] := by cases v <;> simp [Value.oneCell'] at h <;> rfl
theorem cells_of {M : Mm} {v : AV} {u : Value} (h : RA M v u) (ho : allOne (cellsA v) = true) : RAs M (cellsA v) u.cells.toList ∧ OneAll u.cells.toList := by
  have key : RAs M (cellsA v) u.cells.toList → RAs M (cellsA v) u.cells.toList ∧ OneAll u.cells.toList := fun h => ⟨h, ones_of h ho⟩
  have one : cellsA v = [v] → RAs M (cellsA v) u.cells.toList := by
    intro e
    rw [e] at ho ⊢
    have h1 : oneA v = true := by
      simp only [allOne] at ho
      cases hc : oneA v with
      | false => rw [hc] at ho; cases ho
      | true => rfl
    rw [cells_one (one_of h h1)]
    simp only [RAs]
    exact ⟨u, [], rfl, h, rfl⟩
  refine key ?_
  cases v with
  | c t =>
    cases t with
    | agg ts =>
      simp only [RA, RT] at h
      obtain ⟨xs, rfl, h⟩ := h
      simpa [cellsA, Value.cells] using RAs.ofT h
    | _ => exact one rfl
  | agg cs =>
    simp only [RA] at h
    obtain ⟨xs, rfl, h⟩ := h
    simpa [cellsA, Value.cells] using h
  | _ => exact one rfl

def spl {α : Type} : List α → Nat → List α → List α
  | l, _, [] => l
  | l, k, v :: vs => spl (l.set k v) (k + 1) vs
theorem spl_eq {α : Type} : ∀ (vs l : List α) (k : Nat), k + vs.length ≤ l.length → spl l k vs = l.take k ++ vs ++ l.drop (k + vs.length)
  | [], l, k, _ => by simp [spl]
  | v :: vs, l, k, h => by
    have hk : k < l.length := by simp at h; omega
    rw [spl, spl_eq vs (l.set k v) (k + 1) (by simp at h ⊢; omega)]
    rw [List.take_set, List.drop_set, if_pos (by omega), List.take_succ_eq_append_getElem hk, List.set_append_right _ _ (by simp; omega)]
    simp [Nat.min_eq_left (Nat.le_of_lt hk), Nat.add_assoc, Nat.add_comm 1]
theorem RAs.spl {M : Mm} : ∀ {vs cs : List AV} {us xs : List Value} {k : Nat}, RAs M cs xs → RAs M vs us → RAs M (spl cs k vs) (Go.Proofs.Ythgackidonocpaa.spl xs k us)
  | [], _, _, _, _, h, h' => by simp only [RAs] at h'; subst h'; exact h
  | v :: vs, cs, _, xs, k, h, h' => by
    simp only [RAs] at h'
    obtain ⟨x, r, rfl, h1, h2⟩ := h'
    exact RAs.spl (vs := vs) (cs := cs.set k v) (us := r) (xs := xs.set k x) (k := k + 1) (RAs.set k h h1) h2
theorem spl_one {xs us : List Value} {k : Nat} (h : OneAll xs) (h' : OneAll us) : OneAll (spl xs k us) := by
  induction us generalizing xs k with
  | nil => exact h
  | cons u us ih =>
    refine ih (fun x hx => ?_) (fun x hx => h' x (List.mem_cons_of_mem _ hx))
    rcases List.mem_or_eq_of_mem_set hx with hx | rfl
    · exact h x hx
    · exact h' x (by simp)
theorem spl_len {α : Type} : ∀ (vs l : List α) (k : Nat), (spl l k vs).length = l.length
  | [], l, k => rfl
  | v :: vs, l, k => by rw [spl, spl_len vs]; simp

section
variable {P : Program} {F : Frm} {L : Tab} {d : Option Tmp} {ty : TypeId} {pos : String} {aft : Array Edge} {g : Option (Nat × Bool)} {ρ : Operand → AV} {hp : List Blk} {K : AV → List Blk → Prop}

theorem lo_move {x : Operand} {v : AV} (hv : ρ x = v) (h : K v hp) : LO P F ⟨d, .move x, ty, pos, aft, g⟩ ρ hp K := by
  refine LO.same (v := v) (fun M e w hx _ => ⟨e x, rfl, ?_⟩) h
  rw [← hv]; exact hx x (by first | (simp [Op.operands]; done) | simp [Op.operands, Call.operands])
theorem lo_assign {x : Operand} {v : AV} (hv : ρ x = v) (h : K v hp) : LO P F ⟨d, .assign x, ty, pos, aft, g⟩ ρ hp K := by
  refine LO.same (v := v) (fun M e w hx _ => ⟨e x, rfl, ?_⟩) h
  rw [← hv]; exact hx x (by first | (simp [Op.operands]; done) | simp [Op.operands, Call.operands])
theorem lo_pick_t {c x y : Operand} {v : AV} (hc : ρ c = .c (.lit (.bool true))) (hv : ρ x = v) (h : K v hp) : LO P F ⟨d, .pick c x y, ty, pos, aft, g⟩ ρ hp K := by
  refine LO.same (v := v) (fun M e w hx _ => ⟨e x, ?_, ?_⟩) h
  · have := hx c (by first | (simp [Op.operands]; done) | simp [Op.operands, Call.operands])
    rw [hc] at this
    simp only [RA, RT] at this
    simp [execOp, this, asBool]
  · rw [← hv]; exact hx x (by first | (simp [Op.operands]; done) | simp [Op.operands, Call.operands])
theorem lo_pick_f {c x y : Operand} {v : AV} (hc : ρ c = .c (.lit (.bool false))) (hv : ρ y = v) (h : K v hp) : LO P F ⟨d, .pick c x y, ty, pos, aft, g⟩ ρ hp K := by
  refine LO.same (v := v) (fun M e w hx _ => ⟨e y, ?_, ?_⟩) h
  · have := hx c (by first | (simp [Op.operands]; done) | simp [Op.operands, Call.operands])
    rw [hc] at this
    simp only [RA, RT] at this
    simp [execOp, this, asBool]
  · rw [← hv]; exact hx y (by first | (simp [Op.operands]; done) | simp [Op.operands, Call.operands])
theorem lo_extract {x : Operand} {ts : List T} {k : Nat} {t : T} (hx : ρ x = .c (.tup ts)) (hk : ts[k]? = some t) (h : K (.c t) hp) : LO P F ⟨d, .extract x k, ty, pos, aft, g⟩ ρ hp K := by
  refine ⟨fun M e w he hh => ?_⟩
  have h1 := he x (by first | (simp [Op.operands]; done) | simp [Op.operands, Call.operands])
  rw [hx] at h1
  simp only [RA, RT] at h1
  obtain ⟨xs, hu, hxs⟩ := h1
  obtain ⟨u, hu1, hu2⟩ := hxs.get hk
  have : (execOp e ⟨d, .extract x k, ty, pos, aft, g⟩).run P w = .ok (.value u) w := by
    simp [execOp, hu, Instr.extract, hu1]
  rw [this]
  exact ⟨M, _, hp, h, Ext.refl _ _, hh, by simp only [RA]; exact hu2⟩
theorem lo_extractA {x : Operand} {ts : List AV} {k : Nat} {t : AV} (hx : ρ x = .tup ts) (hk : ts[k]? = some t) (h : K t hp) : LO P F ⟨d, .extract x k, ty, pos, aft, g⟩ ρ hp K := by
  refine ⟨fun M e w he hh => ?_⟩
  have h1 := he x (by first | (simp [Op.operands]; done) | simp [Op.operands, Call.operands])
  rw [hx] at h1
  simp only [RA] at h1
  obtain ⟨xs, hu, hxs⟩ := h1
  obtain ⟨u, hu1, hu2⟩ := hxs.get hk
  have : (execOp e ⟨d, .extract x k, ty, pos, aft, g⟩).run P w = .ok (.value u) w := by
    simp [execOp, hu, Instr.extract, hu1]
  rw [this]
  exact ⟨M, _, hp, h, Ext.refl _ _, hh, hu2⟩

/-- a new block -/
theorem push_box {M : Mm} {w : World} (hh : HeapOk F M hp w) {t : TypeId} {cs : List AV} {xs : List Value} (hx : RAs M cs xs) (h1 : OneAll xs) : HeapOk F M (hp ++ [.box w.heap.size t cs]) (w.alloc (.cells xs.toArray t)) := by
  refine hh.step hp.length rfl rfl rfl (by simp) (fun b hb _ => Below.heap_alloc _ _ _ hb) (Ext.refl _ _) (fun p v h1 h2 => by rw [h2] at h1; cases h1) (fun j hj => ?_) (fun x' hx' => ?_)
  · rcases Nat.lt_or_ge j hp.length with h | h
    · rw [List.getElem?_append_left h]
    · rw [List.getElem?_eq_none (by simp; omega), List.getElem?_eq_none (by omega)]
  · have : x' = .box w.heap.size t cs := by simpa using hx'.symm
    subst this
    refine ⟨⟨xs, heap_alloc_new w _, hx, h1⟩, fun b hb => .inr ?_⟩
    obtain rfl : w.heap.size = b := by simpa [Blk.blk] using hb
    refine ⟨Nat.le_refl _, fun p hp => ?_⟩
    cases hc : M p with
    | none => rfl
    | some v => have := World.block_lt_of_cell? w p (hh.mem p v hc).1; omega
theorem lo_alloc (hL : TabOk P L) {t : TypeId} {ti : TI} (ht : L.look t = some ti) (h : ∀ b, K (.ptr hp.length b 0) (hp ++ [.box b t (ti.zero.map fun v => .c (.lit v))])) : LO P F ⟨d, .alloc t, ty, pos, aft, g⟩ ρ hp K := by
  refine ⟨fun M e w he hh => ?_⟩
  obtain ⟨z, hz, hzc, _, hone⟩ := hL.zero ht
  have : (execOp e ⟨d, .alloc t, ty, pos, aft, g⟩).run P w = .ok (.value (.pointer (some ⟨w.heap.size, 0, none⟩))) (w.alloc (.cells z.cells t)) := by
    simp [execOp, Instr.alloc, hz, newVar, newRow]
  rw [this]
  refine ⟨M, _, _, h w.heap.size, Ext.refl _ _, ?_, (by simp only [RA])⟩
  have hz' : z.cells = ti.zero.toArray := by rw [← hzc]
  rw [hz']
  refine push_box hh ?_ hone
  generalize ti.zero = l
  induction l with
  | nil => simp [RAs]
  | cons v l ih => simp only [List.map_cons, RAs, RA, RT]; exact ⟨v, l, rfl, rfl, ih⟩
theorem lo_box {t : TypeId} {x : Operand} {v : AV} (hv : ρ x = v) (h1 : allOne (cellsA v) = true) (h : ∀ b, K (.ptr hp.length b 0) (hp ++ [.box b t (cellsA v)])) : LO P F ⟨d, .box t x, ty, pos, aft, g⟩ ρ hp K := by
  refine ⟨fun M e w he hh => ?_⟩
  have hx := he x (by first | (simp [Op.operands]; done) | simp [Op.operands, Call.operands])
  rw [hv] at hx
  obtain ⟨hc, ho⟩ := cells_of hx h1
  have : (execOp e ⟨d, .box t x, ty, pos, aft, g⟩).run P w = .ok (.value (.pointer (some ⟨w.heap.size, 0, none⟩))) (w.alloc (.cells (e x).cells t)) := by
    simp [execOp, Instr.box, newVar, newRow]
  rw [this]
  refine ⟨M, _, _, h w.heap.size, Ext.refl _ _, ?_, by simp only [RA]⟩
  have := push_box (t := t) hh hc ho
  simpa using this

theorem lo_load_box (hL : TabOk P L) {t : TypeId} {ti : TI} {x : Operand} {i b off : Nat} {tb : TypeId} {cs : List AV} (hx : ρ x = .ptr i b off) (hi : hp[i]? = some (.box b tb cs)) (ht : L.look t = some ti) (ha : ti.agg = true) (hl : Nat.ble (off + ti.size) cs.length = true) (h : K (.agg ((cs.drop off).take ti.size)) hp) : LO P F ⟨d, .load t x, ty, pos, aft, g⟩ ρ hp K := by
  refine LO.same (fun M e w he hh => ?_) h
  have h1 := he x (by first | (simp [Op.operands]; done) | simp [Op.operands, Call.operands])
  rw [hx] at h1
  simp only [RA] at h1
  obtain ⟨u, hu, hr⟩ := load_box hL hh hi ht ha (Nat.le_of_ble_eq_true hl)
  exact ⟨u, by simp [execOp, Instr.loadAt, h1, Instr.sureAddr, hu], hr⟩
theorem lo_load_box1 (hL : TabOk P L) {t : TypeId} {ti : TI} {x : Operand} {i b off : Nat} {tb : TypeId} {cs : List AV} {v : AV} (hx : ρ x = .ptr i b off) (hi : hp[i]? = some (.box b tb cs)) (ht : L.look t = some ti) (ha : ti.agg = false) (hv : cs[off]? = some v) (h : K v hp) : LO P F ⟨d, .load t x, ty, pos, aft, g⟩ ρ hp K := by
  refine LO.same (fun M e w he hh => ?_) h
  have h1 := he x (by first | (simp [Op.operands]; done) | simp [Op.operands, Call.operands])
  rw [hx] at h1
  simp only [RA] at h1
  obtain ⟨u, hu, hr⟩ := load_box1 hL hh hi ht ha hv
  exact ⟨u, by simp [execOp, Instr.loadAt, h1, Instr.sureAddr, hu], hr⟩
theorem lo_load_pin1 (hL : TabOk P L) {t : TypeId} {ti : TI} {x : Operand} {off : Nat} {cs : List T} {v : T} (hx : ρ x = .c (.pin cs off)) (ht : L.look t = some ti) (ha : ti.agg = false) (hv : cs[off]? = some v) (h : K (.c v) hp) : LO P F ⟨d, .load t x, ty, pos, aft, g⟩ ρ hp K := by
  refine LO.same (fun M e w he hh => ?_) h
  have h1 := he x (by first | (simp [Op.operands]; done) | simp [Op.operands, Call.operands])
  rw [hx] at h1
  simp only [RA, RT] at h1
  obtain ⟨ad, xs, hu, hat, hxs⟩ := h1
  obtain ⟨u, hu1, hu2⟩ := hxs.get hv
  have hcell := (hh.mem _ _ (hat off u hu1)).1
  refine ⟨u, ?_, by simp only [RA]; exact hu2⟩
  simp [execOp, Instr.loadAt, hu, Instr.sureAddr, loadVar, hL.isAgg ht, ha, hcell]
theorem lo_load_pin (hL : TabOk P L) {t : TypeId} {ti : TI} {x : Operand} {off : Nat} {cs ts : List T} (hx : ρ x = .c (.pin cs off)) (ht : L.look t = some ti) (ha : ti.agg = true) (hts : (cs.drop off).take ti.size = ts) (hl : ts.length = ti.size) (h : K (.c (.agg ts)) hp) : LO P F ⟨d, .load t x, ty, pos, aft, g⟩ ρ hp K := by
  refine LO.same (fun M e w he hh => ?_) h
  have h1 := he x (by first | (simp [Op.operands]; done) | simp [Op.operands, Call.operands])
  rw [hx] at h1
  simp only [RA, RT] at h1
  obtain ⟨ad, xs, hu, hat, hxs⟩ := h1
  have hys : RTs M ts ((xs.drop off).take ti.size) := by rw [← hts]; exact (hxs.drop off).take ti.size
  have hlen : ((xs.drop off).take ti.size).length = ti.size := by rw [hys.len, hl]
  have hlc : (loadCells (ad.add off) ti.size).run P w = .ok ((xs.drop off).take ti.size).toArray w := by
    have := run_loadCells_list (P := P) w (ad.add off) ((xs.drop off).take ti.size) (fun j v hj => by
      rw [add_add']
      rw [List.getElem?_take] at hj
      split at hj
      · rw [List.getElem?_drop] at hj
        exact (hh.mem _ _ (hat _ v hj)).1
      · cases hj)
    rwa [hlen] at this
  refine ⟨.agg ((xs.drop off).take ti.size).toArray, ?_, by simp only [RA, RT]; exact ⟨_, rfl, hys⟩⟩
  simp [execOp, Instr.loadAt, hu, Instr.sureAddr, loadVar, hL.isAgg ht, ha, hL.sizeOf ht, hlc]

theorem lo_store (hL : TabOk P L) {t : TypeId} {ti : TI} {x y : Operand} {i b off : Nat} {tb : TypeId} {cs : List AV} {v : AV} (hx : ρ x = .ptr i b off) (hi : hp[i]? = some (.box b tb cs)) (hv : ρ y = v) (ht : L.look t = some ti) (h1 : allOne (cellsA v) = true) (hl : (cellsA v).length = ti.size) (hb : Nat.ble (off + ti.size) cs.length = true)
    (h : K (.c (.lit undef)) (hp.set i (.box b tb (spl cs off (cellsA v))))) : LO P F ⟨d, .store t x y, ty, pos, aft, g⟩ ρ hp K := by
  refine ⟨fun M e w he hh => ?_⟩
  have hax := he x (by first | (simp [Op.operands]; done) | simp [Op.operands, Call.operands])
  rw [hx] at hax
  simp only [RA] at hax
  have hvy := he y (by first | (simp [Op.operands]; done) | simp [Op.operands, Call.operands])
  rw [hv] at hvy
  obtain ⟨hc, ho⟩ := cells_of hvy h1
  obtain ⟨xs, hhp, hxs, hone⟩ := hh.at_ i _ hi
  have hlen := hxs.len
  have hcl := hc.len
  have hble := Nat.le_of_ble_eq_true hb
  have hcs : (e y).cells.size = ti.size := by rw [← hl, ← hcl]; simp
  have hst := run_storeCells_at (P := P) b off tb (e y).cells.toList 0 xs.toArray w hhp (by simp; omega) ho
  have hrun : (execOp e ⟨d, .store t x y, ty, pos, aft, g⟩).run P w = .ok .skip (w.setRow b (spl xs off (e y).cells.toList).toArray) := by
    rw [spl_eq _ _ _ (by simp; omega)]
    simp [execOp, Instr.storeAt, hax, Instr.sureAddr, storeVar, hL.sizeOf ht, hcs] at hst ⊢
    simp [hst]
  rw [hrun]
  refine ⟨M, _, _, h, Ext.refl _ _, ?_, by simp only [RA, RT]⟩
  have hblk := setRow_heap w b xs.toArray (spl xs off (e y).cells.toList).toArray tb _ hhp
  refine hh.step i rfl rfl rfl (by simp [World.setRow]) (fun k hk hne => ?_) (Ext.refl _ _) (fun p v h1 h2 => by rw [h2] at h1; cases h1) (fun j hj => by rw [List.getElem?_set_ne (Ne.symm hj)]) (fun x' hx' => ?_)
  · have : k ≠ b := fun e => hne _ hi (by rw [e]; rfl)
    simp [World.setRow, Array.getElem?_modify, Ne.symm this]
  · have hlt : i < hp.length := (List.getElem?_eq_some_iff.1 hi).1
    rw [List.getElem?_set_self hlt] at hx'
    obtain rfl : Blk.box b tb (spl cs off (cellsA v)) = x' := by injection hx'
    refine ⟨⟨_, hblk, RAs.spl hxs hc, spl_one hone ho⟩, fun b' hb' => .inl ⟨_, hi, hb'⟩⟩
end

end Go.Proofs.Ythgackidonocpaa
