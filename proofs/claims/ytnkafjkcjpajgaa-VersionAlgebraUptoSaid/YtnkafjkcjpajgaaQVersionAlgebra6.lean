/-
  Texts of this proof, part 6: Ab34 Ab37 Ab38 Ab42 Tab Vad Vae.
-/
import Derived.Test.YtnkafjkcjpajgaaQVersionAlgebra5
import Derived.ChangeKeysEq
import Derived.Laws.IdiomRangeMap
import Derived.Laws.StructEq
import Derived.Lib.AppendStr
import Derived.Lib.AppendZerosOnto
import Derived.MapKept
import Derived.Test.YtnkafjkcjpajgaaProg
namespace Go.Proofs.Ytnkafjkcjpajgaa
open Go.RowKit
theorem lits_rt (M : Mm) : ∀ l : List Value, RTs M (l.map T.lit) l
  | [] => by simp only [List.map_nil, RTs]
  | v :: l => by simp only [List.map_cons, RTs]; exact ⟨v, l, rfl, by simp only [RT], lits_rt M l⟩
section
variable {P : Program} {F : Frm} {L : Tab} {d : Option Tmp} {ty : TypeId} {pos : String} {aft : Array Edge} {g : Option (Nat × Bool)} {ρ : Operand → AV} {hp : List Blk} {K : AV → List Blk → Prop}
theorem lo_cap_nil (hL : TabOk P L) {t el : TypeId} {ti : TI} {x : Operand} (hx : ρ x = .c (.lit (.slice none 0 0))) (ht : L.look t = some ti) (hd : ti.d = .slice el) (h : K (.c (.lit (.int .i64 0))) hp) : LO P F ⟨d, .call { callee := .builtin .cap, args := #[x], argTypes := #[t] }, ty, pos, aft, g⟩ ρ hp K := by
  refine LO.same (fun M e w he hh => ?_) h
  have h1 := he x (by first | (simp [Op.operands]; done) | simp [Op.operands, Call.operands])
  rw [hx] at h1
  simp only [RA, RT] at h1
  exact ⟨_, by simp [execOp, resolve, invoke, builtin, Builtin.cap_, h1, run_underlying (hL.slice ht hd), goInt]; rfl, by simp only [RA, RT]⟩
theorem lo_hi_nil (hL : TabOk P L) {t el : TypeId} {ti te : TI} {x y : Operand} {k : IntKind} (hx : ρ x = .c (.lit (.slice none 0 0))) (hy : ρ y = .c (.lit (.int k 0))) (ht : L.look t = some ti) (hd : ti.d = .slice el) (hte : L.look el = some te) (hK : K (.c (.lit (.slice none 0 0))) hp) : LO P F ⟨d, .slice t x none (some y) none, ty, pos, aft, g⟩ ρ hp K := by
  refine LO.same (fun M e w he _ => ?_) hK
  have h1 := he x (by simp [Op.operands])
  rw [hx] at h1
  simp only [RA, RT] at h1
  have h2 := he y (by simp [Op.operands])
  rw [hy] at h2
  simp only [RA, RT] at h2
  refine ⟨.slice none 0 0, ?_, by simp only [RA, RT]⟩
  have hb := run_sliceBound (P := P) (w := w) k (0 : Int) 0 .sliceAcap (by omega) (by omega)
  simp [execOp, Instr.sliceAt, Instr.slice, Instr.sliceBounds, h1, h2, run_underlying (hL.slice ht hd), hL.sizeOf hte, hb]
theorem exec_append2 {e : Operand → Value} {x y : Operand} {t u : TypeId} (w : World) {v' : Value} {w' : World} (h : (Builtin.append_ #[t, u] ty #[e x, e y]).run P w = .ok v' w') :
    (execOp e ⟨d, .call { callee := .builtin .append, args := #[x, y], argTypes := #[t, u] }, ty, pos, aft, g⟩).run P w = .ok (.value v') w' := by
  simp [execOp, resolve, invoke, builtin, h]
theorem lo_app0 (hL : TabOk P L) {t tn el : TypeId} {ti tin te : TI} {x y : Operand} (n : Nat) {kn : IntKind} (hn0 : 0 < n) (hx : ρ x = .c (.lit (.slice none 0 0))) (hy : ρ y = .c (.lit (.int .i64 (n : Nat)))) (ht : L.look t = some ti) (hd : ti.d = .slice el) (htn : L.look tn = some tin) (hdn : tin.d = .int kn) (hte : L.look el = some te) (h0 : 0 < te.size) (hbytes : n * te.bytes ≤ 140737488355328) (hn : n ≤ 140737488355328)
    (h : ∀ v' ts, K (.own hp.length v') (hp ++ [.row v' el te.size n ts])) : LO P F ⟨d, .call { callee := .builtin .append, args := #[x, y], argTypes := #[t, tn] }, ty, pos, aft, g⟩ ρ hp K := by
  refine ⟨fun M e w he hh => ?_⟩
  have h1 := he x (by first | (simp [Op.operands]; done) | simp [Op.operands, Call.operands])
  rw [hx] at h1
  simp only [RA, RT] at h1
  have h2 := he y (by first | (simp [Op.operands]; done) | simp [Op.operands, Call.operands])
  rw [hy] at h2
  simp only [RA, RT] at h2
  obtain ⟨inf, z, hi1, hi2, hi3, hi4, hi5, hi6, _⟩ := hL.info hte
  have g1 := Lib.run_append_grow_zeros (P := P) w t tn ty el inf z .i64 kn (hL.slice ht hd) (hL.int htn hdn) hi1 hi4 none 0 0 [] (by simp [Builtin.firstCells]) n hn0 (by omega) (by omega) (by omega) (by rw [hi3]; omega) (by rw [hi3]; exact growslice_fits (by omega) (by simpa using hbytes))
  simp only [Nat.zero_add] at g1
  rw [← h1, ← h2] at g1
  rw [exec_append2 w g1]
  have hge := grownCap_ge w n 0 el
  have hcm : grownCap w n 0 el ≤ maxLen := grownCap_le_maxLen w n 0 el (by unfold maxLen; omega)
  have hzl : (Builtin.zeroCells z.cells n).toList.length = n * te.size := by rw [Array.length_toList, size_zeroCells, hi6.1]
  have hone : OneAll (Builtin.zeroCells z.cells n).toList := by
    intro u hu
    simp only [Builtin.zeroCells, Array.toList_map, List.mem_map, Array.mem_toList_iff, Array.mem_range] at hu
    obtain ⟨j, hj, rfl⟩ := hu
    have hm : j % z.cells.size < z.cells.size := Nat.mod_lt _ (by rw [hi6.1]; omega)
    rw [getElem!_pos z.cells _ hm]
    refine hi6.2 _ ?_
    rw [← hi5]
    exact Array.getElem_mem_toList hm
  have hown : OwnsO (w.drew.alloc (.cells (#[] ++ Builtin.zeroCells z.cells n ++ Builtin.zeroCells z.cells (grownCap w n 0 el - n)) el)) el te.size (.slice (some ⟨w.heap.size, 0, none⟩) n (grownCap w n 0 el)) n (Builtin.zeroCells z.cells n).toList := by
    refine ⟨hzl, .inr ⟨w.heap.size, 0, _, _, rfl, heap_alloc_new w.drew _, hge, hcm, ?_, ?_⟩⟩
    · simp only [Array.size_append, size_zeroCells, hi6.1, Nat.zero_add, List.size_toArray, List.length_nil]
      rw [← Nat.add_mul]
      exact Nat.mul_le_mul_right _ (by omega)
    · simp only [Array.toList_append, List.drop_zero, List.nil_append]
      rw [← hzl]
      exact List.take_left
  generalize hxs : (Builtin.zeroCells z.cells n).toList = xs at *
  refine ⟨M, _, _, h (.slice (some ⟨w.heap.size, 0, none⟩) n (grownCap w n 0 el)) (xs.map T.lit), Ext.refl _ _, ?_, by simp only [RA]; exact ⟨trivial, rfl⟩⟩
  refine push_row (w' := w.drew.alloc (.cells (#[] ++ Builtin.zeroCells z.cells n ++ Builtin.zeroCells z.cells (grownCap w n 0 el - n)) el)) (x := .row (.slice (some ⟨w.heap.size, 0, none⟩) n (grownCap w n 0 el)) el te.size n (xs.map T.lit)) hh rfl rfl rfl (by simp) (fun b hb => heap_alloc_old w.drew _ hb) (Ext.refl _ _) (fun p v h1 h2 => by rw [h2] at h1; cases h1) ⟨xs, hown, lits_rt M xs, hone, h0⟩ (fun b hb => ?_)
  obtain rfl : w.heap.size = b := by simpa [Blk.blk, Value.ownBlock] using hb
  exact ⟨Nat.le_refl _, fun p hp => mem_fresh hh.mem (by omega)⟩
theorem zCap0 {t el : TypeId} {ti : TI} {x : Operand} (h : K (.c (.lit (.int .i64 0))) hp) (hL : TabOk P L := by exact tok) (hx : ρ x = .c (.lit (.slice none 0 0)) := by exact rfl) (ht : L.look t = some ti := by exact rfl) (hd : ti.d = .slice el := by exact rfl) : LO P F ⟨d, .call { callee := .builtin .cap, args := #[x], argTypes := #[t] }, ty, pos, aft, g⟩ ρ hp K := lo_cap_nil hL hx ht hd h
theorem zHn {t el : TypeId} {ti te : TI} {x y : Operand} {k : IntKind} (h : K (.c (.lit (.slice none 0 0))) hp) (hL : TabOk P L := by exact tok) (hx : ρ x = .c (.lit (.slice none 0 0)) := by exact rfl) (hy : ρ y = .c (.lit (.int k 0)) := by exact rfl) (ht : L.look t = some ti := by exact rfl) (hd : ti.d = .slice el := by exact rfl) (hte : L.look el = some te := by exact rfl) : LO P F ⟨d, .slice t x none (some y) none, ty, pos, aft, g⟩ ρ hp K := lo_hi_nil hL hx hy ht hd hte h
theorem zAp0 {t tn el : TypeId} {ti tin te : TI} {x y : Operand} {kn : IntKind} {k : Nat} {hp' : Value → List T → List Blk} (n : Nat) (hn0 : 0 < n) (hn : n ≤ 1048576) (h : ∀ v' ts, K (.own k v') (hp' v' ts)) (hL : TabOk P L := by exact tok) (hx : ρ x = .c (.lit (.slice none 0 0)) := by exact rfl) (hy : ρ y = .c (.lit (.int .i64 (n : Nat))) := by exact rfl) (ht : L.look t = some ti := by exact rfl) (hd : ti.d = .slice el := by exact rfl) (htn : L.look tn = some tin := by exact rfl) (hdn : tin.d = .int kn := by exact rfl) (hte : L.look el = some te := by exact rfl) (h0 : Nat.ble 1 te.size = true := by exact rfl) (hb : te.bytes ≤ 1048576 := by decide) (hk : lenU hp = some k := by exact rfl)
    (hf : ∀ v' ts, evl (hp ++ [.row v' el te.size n ts]) = some (hp' v' ts) := by exact fun _ _ => rfl) : LO P F ⟨d, .call { callee := .builtin .append, args := #[x, y], argTypes := #[t, tn] }, ty, pos, aft, g⟩ ρ hp K :=
  lo_app0 hL n hn0 hx hy ht hd htn hdn hte (Nat.le_of_ble_eq_true h0) (Nat.le_trans (Nat.mul_le_mul hn hb) (by decide)) (by omega) fun v' ts => by
    rw [← lenU_eq hk, ← evl_eq (hf v' ts)]; exact h v' ts
end
end Go.Proofs.Ytnkafjkcjpajgaa
namespace Go.Proofs.Ytnkafjkcjpajgaa
open Go.RowKit
theorem TabOk.array {P : Program} {L : Tab} (hL : TabOk P L) {t e : TypeId} {n : Nat} {i : TI} (h : L.look t = some i) (hd : i.d = .array n e) : P.underlying t = some (.array n e) := by
  obtain ⟨d, h1, h2⟩ := hL.desc h
  rw [hd] at h2
  cases d <;> simp [descB] at h2
  rw [h1, h2.1, h2.2]
section
variable {P : Program} {F : Frm} {L : Tab} {d : Option Tmp} {ty : TypeId} {pos : String} {aft : Array Edge} {g : Option (Nat × Bool)} {ρ : Operand → AV} {hp : List Blk} {K : AV → List Blk → Prop}
theorem lo_build_arr (hL : TabOk P L) {t el : TypeId} {ti te : TI} {n : Nat} {parts : List (Nat × Operand)} {cs : List AV} (ht : L.look t = some ti) (hd : ti.d = .array n el) (hte : L.look el = some te) (hf : fillA (fun i => some (i * te.size, te.size)) (ti.zero.map fun v => .c (.lit v)) (parts.map fun p => (p.1, ρ p.2)) = some cs) (h : K (.agg cs) hp) : LO P F ⟨d, .build t parts.toArray, ty, pos, aft, g⟩ ρ hp K := by
  refine LO.same (fun M e w he hh => ?_) h
  obtain ⟨z, hz, hzc, _, hone⟩ := hL.zero ht
  obtain ⟨ys, g1, g2, _, _⟩ := fill_sound (pl' := fun i => some (i * te.size, te.size)) (fun i p hp => hp) (fun p hp => he p.2 (by simp only [Op.operands]; exact List.mem_map.2 ⟨p, by simpa using hp, rfl⟩)) (RAs.lits (M := M) ti.zero) hone hf
  refine ⟨.agg ys.toArray, ?_, by simp only [RA]; exact ⟨ys, rfl, g2⟩⟩
  have hz' : z.cells = ti.zero.toArray := by rw [← hzc]
  simp only [execOp, Instr.build, Sem.run_bind, hz, run_underlying (hL.array ht hd), Result.andThen_ok, hL.sizeOf hte, hz']
  simp only [List.map_toArray]
  rw [show (fun x : Nat × Operand => match x with | (i, x) => (i, e x)) = (fun p : Nat × Operand => (p.1, e p.2)) from rfl]
  rw [g1]
  rfl
theorem zBda {t el : TypeId} {ti te : TI} {n : Nat} {parts : List (Nat × Operand)} {cs cs' : List AV} (h : K (.agg cs') hp) (hL : TabOk P L := by exact tok) (ht : L.look t = some ti := by exact rfl) (hd : ti.d = .array n el := by exact rfl) (hte : L.look el = some te := by exact rfl) (hf : fillA (fun i => some (i * te.size, te.size)) (ti.zero.map fun v => .c (.lit v)) (parts.map fun p => (p.1, ρ p.2)) = some cs := by exact rfl) (he : evl cs = some cs' := by exact rfl) : LO P F ⟨d, .build t parts.toArray, ty, pos, aft, g⟩ ρ hp K :=
  lo_build_arr hL ht hd hte hf (by rw [← evl_eq he]; exact h)
theorem lo_idx_arr (hL : TabOk P L) {t el : TypeId} {ti te : TI} {x y : Operand} {i off n : Nat} {v : Value} {k : IntKind} {z : Int} (j : Nat) (hx : ρ x = .eptr i v off) (hy : ρ y = .c (.lit (.int k z))) (hz : z = (j : Int)) (hj : j < n) (ht : L.look t = some ti) (hd : ti.d = .array n el) (hte : L.look el = some te) (h : K (.eptr i v (off + j * te.size)) hp) : LO P F ⟨d, .indexAddr t x y, ty, pos, aft, g⟩ ρ hp K := by
  refine LO.same (fun M e w he hh => ?_) h
  have h1 := he x (by first | (simp [Op.operands]; done) | simp [Op.operands, Call.operands])
  rw [hx] at h1
  simp only [RA] at h1
  obtain ⟨ad, m, c, hv, hu⟩ := h1
  have h2 := he y (by first | (simp [Op.operands]; done) | simp [Op.operands, Call.operands])
  rw [hy] at h2
  simp only [RA, RT] at h2
  refine ⟨.pointer (some (ad.add (off + j * te.size))), ?_, by simp only [RA]; exact ⟨ad, m, c, hv, rfl⟩⟩
  subst hz
  simp [execOp, Instr.indexAt, hu, h2, asIntOf, run_underlying (hL.array ht hd), hL.sizeOf hte, hj, Instr.sureAddr, add_add']
theorem zIxa {t el : TypeId} {ti te : TI} {x y : Operand} {i off n : Nat} {v : Value} {k : IntKind} {z : Int} (j : Nat) (hj : j < n) (h : K (.eptr i v (off + j * te.size)) hp) (hz : z = (j : Int) := by exact rfl) (hL : TabOk P L := by exact tok) (hx : ρ x = .eptr i v off := by exact rfl) (hy : ρ y = .c (.lit (.int k z)) := by exact rfl) (ht : L.look t = some ti := by exact rfl) (hd : ti.d = .array n el := by exact rfl) (hte : L.look el = some te := by exact rfl) : LO P F ⟨d, .indexAddr t x y, ty, pos, aft, g⟩ ρ hp K :=
  lo_idx_arr hL j hx hy hz hj ht hd hte h
end
end Go.Proofs.Ytnkafjkcjpajgaa
namespace Go.Proofs.Ytnkafjkcjpajgaa
open Go.RowKit
inductive Pt where
  | fin (r : List Nat)
  | fork (p : List Nat) (i : Nat) (a : Pt) (j : Nat) (b : Pt)
  | fork3 (p : List Nat) (i : Nat) (a : Pt) (j : Nat) (b : Pt) (k : Nat) (c : Pt)
  | fork4 (p : List Nat) (i : Nat) (a : Pt) (j : Nat) (b : Pt) (k : Nat) (c : Pt) (m : Nat) (d : Pt)
def Pt.n : Pt → Nat
  | .fin r => r.length
  | .fork p _ a _ _ => a.n + 1 + p.length
  | .fork3 p _ a _ _ _ _ => a.n + 1 + p.length
  | .fork4 p _ a _ _ _ _ _ _ => a.n + 1 + p.length
end Go.Proofs.Ytnkafjkcjpajgaa
namespace Go.Proofs.Ytnkafjkcjpajgaa
open Go.RowKit
section
variable {P : Program} {F : Frm} {L : Tab} {d : Option Tmp} {ty : TypeId} {pos : String} {aft : Array Edge} {g : Option (Nat × Bool)} {ρ : Operand → AV} {hp : List Blk} {K : AV → List Blk → Prop}
theorem lo_idx_box (hL : TabOk P L) {t el : TypeId} {ti te : TI} {x y : Operand} {i b off n : Nat} {k : IntKind} {z : Int} (j : Nat) (hx : ρ x = .ptr i b off) (hy : ρ y = .c (.lit (.int k z))) (hz : z = (j : Int)) (hj : j < n) (ht : L.look t = some ti) (hd : ti.d = .array n el) (hte : L.look el = some te) (h : K (.ptr i b (off + j * te.size)) hp) : LO P F ⟨d, .indexAddr t x y, ty, pos, aft, g⟩ ρ hp K := by
  refine LO.same (fun M e w he hh => ?_) h
  have h1 := he x (by first | (simp [Op.operands]; done) | simp [Op.operands, Call.operands])
  rw [hx] at h1
  simp only [RA] at h1
  have h2 := he y (by first | (simp [Op.operands]; done) | simp [Op.operands, Call.operands])
  rw [hy] at h2
  simp only [RA, RT] at h2
  refine ⟨.pointer (some ⟨b, off + j * te.size, none⟩), ?_, by simp only [RA]⟩
  subst hz
  simp [execOp, Instr.indexAt, h1, h2, asIntOf, run_underlying (hL.array ht hd), hL.sizeOf hte, hj, Instr.sureAddr, offs_add]
theorem zIxb {t el : TypeId} {ti te : TI} {x y : Operand} {i b off n : Nat} {k : IntKind} {z : Int} (j : Nat) (h : K (.ptr i b (off + j * te.size)) hp) (hz : z = (j : Int) := by exact rfl) (hL : TabOk P L := by exact tok) (hx : ρ x = .ptr i b off := by exact rfl) (hy : ρ y = .c (.lit (.int k z)) := by exact rfl) (ht : L.look t = some ti := by exact rfl) (hd : ti.d = .array n el := by exact rfl) (hj : Nat.blt j n = true := by exact rfl) (hte : L.look el = some te := by exact rfl) : LO P F ⟨d, .indexAddr t x y, ty, pos, aft, g⟩ ρ hp K :=
  lo_idx_box hL j hx hy hz (Nat.le_of_ble_eq_true hj) ht hd hte h
end
end Go.Proofs.Ytnkafjkcjpajgaa
namespace Go.Proofs.Ytnkafjkcjpajgaa
set_option maxRecDepth 100000 in
def tab : Tab :=
  (.node 139 ⟨2, 40, [.string ⟨#[]⟩, .slice none 0 0], (.struct [(0, 1), (1, 1)])⟩ (.node 70 ⟨1, 24, [.slice none 0 0], (.slice 73)⟩ (.node 36 ⟨1, 8, [.nilFunc], .other⟩ (.node 17 ⟨1, 8, [.pointer none], .other⟩ (.node 9 ⟨1, 16, [.string ⟨#[]⟩], .string⟩ (.node 5 ⟨1, 1, [.int .u8 0], (.int .u8)⟩ (.node 3 ⟨1, 8, [.int .i64 0], (.int .i64)⟩ (.node 2 ⟨1, 8, [.int .i64 0], (.int .i64)⟩ (.node 1 ⟨1, 8, [.nilFunc], .other⟩ .nil .nil) .nil) (.node 4 ⟨1, 1, [.bool false], .bool⟩ .nil .nil)) (.node 7 ⟨4, 24, [.int .i64 0, .int .i64 0, .bool false, .int .u8 0], (.struct [(0, 1), (1, 1), (2, 1), (3, 1)])⟩ (.node 6 ⟨1, 1, [.int .u8 0], (.int .u8)⟩ .nil .nil) (.node 8 ⟨4, 24, [.int .i64 0, .int .i64 0, .bool false, .int .u8 0], (.struct [(0, 1), (1, 1), (2, 1), (3, 1)])⟩ .nil .nil))) (.node 13 ⟨2, 24, [.string ⟨#[]⟩, .int .u64 0], (.struct [(0, 1), (1, 1)])⟩ (.node 11 ⟨1, 16, [.string ⟨#[]⟩], .string⟩ (.node 10 ⟨1, 16, [.string ⟨#[]⟩], .string⟩ .nil .nil) (.node 12 ⟨1, 8, [.int .u64 0], (.int .u64)⟩ .nil .nil)) (.node 15 ⟨1, 8, [.pointer none], .other⟩ (.node 14 ⟨2, 24, [.string ⟨#[]⟩, .int .u64 0], (.struct [(0, 1), (1, 1)])⟩ .nil .nil) (.node 16 ⟨1, 8, [.pointer none], .other⟩ .nil .nil)))) (.node 26 ⟨1, 24, [.slice none 0 0], (.slice 89)⟩ (.node 21 ⟨1, 4, [.int .i32 0], (.int .i32)⟩ (.node 19 ⟨1, 8, [.pointer none], (.struct [(0, 1)])⟩ (.node 18 ⟨1, 8, [.pointer none], (.struct [(0, 1)])⟩ .nil .nil) (.node 20 ⟨1, 16, [.nilIface], .other⟩ .nil .nil)) (.node 23 ⟨1, 8, [.int .i64 0], (.int .i64)⟩ (.node 22 ⟨1, 24, [.slice none 0 0], (.slice 32)⟩ .nil .nil) (.node 25 ⟨1, 8, [.nilFunc], .other⟩ .nil .nil))) (.node 31 ⟨2, 16, [.int .i64 0, .int .i64 0], (.struct [(0, 1), (1, 1)])⟩ (.node 29 ⟨1, 8, [.nilFunc], .other⟩ (.node 28 ⟨1, 8, [.nilFunc], .other⟩ .nil .nil) (.node 30 ⟨1, 8, [.nilFunc], .other⟩ .nil .nil)) (.node 33 ⟨1, 8, [.nilFunc], .other⟩ (.node 32 ⟨2, 16, [.int .i64 0, .int .i64 0], (.struct [(0, 1), (1, 1)])⟩ .nil .nil) (.node 34 ⟨1, 8, [.nilFunc], .other⟩ .nil .nil))))) (.node 54 ⟨1, 8, [.nilFunc], .other⟩ (.node 45 ⟨2, 24, [.string ⟨#[]⟩, .int .i64 0], (.struct [(0, 1), (1, 1)])⟩ (.node 40 ⟨1, 8, [.nilFunc], .other⟩ (.node 38 ⟨1, 8, [.nilFunc], .other⟩ (.node 37 ⟨1, 8, [.nilFunc], .other⟩ .nil .nil) (.node 39 ⟨1, 8, [.nilFunc], .other⟩ .nil .nil)) (.node 42 ⟨1, 24, [.slice none 0 0], (.slice 49)⟩ (.node 41 ⟨1, 24, [.slice none 0 0], (.slice 46)⟩ .nil .nil) (.node 44 ⟨1, 8, [.nilFunc], .other⟩ .nil .nil))) (.node 49 ⟨3, 32, [.string ⟨#[]⟩, .int .i64 0, .int .i64 0], (.struct [(0, 1), (1, 1), (2, 1)])⟩ (.node 47 ⟨1, 8, [.nilFunc], .other⟩ (.node 46 ⟨2, 24, [.string ⟨#[]⟩, .int .i64 0], (.struct [(0, 1), (1, 1)])⟩ .nil .nil) (.node 48 ⟨3, 32, [.string ⟨#[]⟩, .int .i64 0, .int .i64 0], (.struct [(0, 1), (1, 1), (2, 1)])⟩ .nil .nil)) (.node 51 ⟨1, 24, [.slice none 0 0], (.slice 113)⟩ (.node 50 ⟨1, 8, [.nilFunc], .other⟩ .nil .nil) (.node 52 ⟨1, 24, [.slice none 0 0], (.slice 118)⟩ .nil .nil)))) (.node 62 ⟨1, 24, [.slice none 0 0], (.slice 142)⟩ (.node 58 ⟨1, 8, [.nilFunc], .other⟩ (.node 56 ⟨1, 8, [.nilFunc], .other⟩ (.node 55 ⟨1, 8, [.nilFunc], .other⟩ .nil .nil) (.node 57 ⟨1, 24, [.slice none 0 0], (.slice 9)⟩ .nil .nil)) (.node 60 ⟨1, 24, [.slice none 0 0], (.slice 135)⟩ (.node 59 ⟨1, 8, [.nilFunc], .other⟩ .nil .nil) (.node 61 ⟨1, 24, [.slice none 0 0], (.slice 140)⟩ .nil .nil))) (.node 66 ⟨8, 168, [.string ⟨#[]⟩, .int .i64 0, .slice none 0 0, .slice none 0 0, .slice none 0 0, .slice none 0 0, .slice none 0 0, .slice none 0 0], (.struct [(0, 1), (1, 1), (2, 1), (3, 1), (4, 1), (5, 1), (6, 1), (7, 1)])⟩ (.node 64 ⟨1, 24, [.slice none 0 0], (.slice 75)⟩ (.node 63 ⟨1, 24, [.slice none 0 0], (.slice 183)⟩ .nil .nil) (.node 65 ⟨8, 168, [.string ⟨#[]⟩, .int .i64 0, .slice none 0 0, .slice none 0 0, .slice none 0 0, .slice none 0 0, .slice none 0 0, .slice none 0 0], (.struct [(0, 1), (1, 1), (2, 1), (3, 1), (4, 1), (5, 1), (6, 1), (7, 1)])⟩ .nil .nil)) (.node 68 ⟨3, 48, [.int .i64 0, .string ⟨#[]⟩, .slice none 0 0], (.struct [(0, 1), (1, 1), (2, 1)])⟩ (.node 67 ⟨1, 24, [.slice none 0 0], (.slice 69)⟩ .nil .nil) (.node 69 ⟨3, 48, [.int .i64 0, .string ⟨#[]⟩, .slice none 0 0], (.struct [(0, 1), (1, 1), (2, 1)])⟩ .nil .nil)))))) (.node 104 ⟨1, 8, [.nilFunc], .other⟩ (.node 88 ⟨1, 8, [.nilFunc], .other⟩ (.node 80 ⟨1, 8, [.nilFunc], .other⟩ (.node 75 ⟨14, 248, [.string ⟨#[]⟩, .slice none 0 0, .slice none 0 0, .int .i64 0, .string ⟨#[]⟩, .slice none 0 0, .int .i64 0, .int .i64 0, .string ⟨#[]⟩, .slice none 0 0, .slice none 0 0, .slice none 0 0, .slice none 0 0, .int .i64 0], (.struct [(0, 1), (1, 1), (2, 1), (3, 3), (6, 8)])⟩ (.node 73 ⟨8, 136, [.int .i64 0, .int .i64 0, .string ⟨#[]⟩, .slice none 0 0, .slice none 0 0, .slice none 0 0, .slice none 0 0, .int .i64 0], (.struct [(0, 1), (1, 1), (2, 1), (3, 1), (4, 1), (5, 1), (6, 1), (7, 1)])⟩ (.node 72 ⟨8, 136, [.int .i64 0, .int .i64 0, .string ⟨#[]⟩, .slice none 0 0, .slice none 0 0, .slice none 0 0, .slice none 0 0, .int .i64 0], (.struct [(0, 1), (1, 1), (2, 1), (3, 1), (4, 1), (5, 1), (6, 1), (7, 1)])⟩ (.node 71 ⟨1, 24, [.slice none 0 0], (.slice 188)⟩ .nil .nil) .nil) (.node 74 ⟨14, 248, [.string ⟨#[]⟩, .slice none 0 0, .slice none 0 0, .int .i64 0, .string ⟨#[]⟩, .slice none 0 0, .int .i64 0, .int .i64 0, .string ⟨#[]⟩, .slice none 0 0, .slice none 0 0, .slice none 0 0, .slice none 0 0, .int .i64 0], (.struct [(0, 1), (1, 1), (2, 1), (3, 3), (6, 8)])⟩ .nil .nil)) (.node 77 ⟨1, 24, [.slice none 0 0], (.struct [(0, 1)])⟩ (.node 76 ⟨1, 24, [.slice none 0 0], (.slice 129)⟩ .nil .nil) (.node 78 ⟨1, 24, [.slice none 0 0], (.struct [(0, 1)])⟩ .nil .nil))) (.node 84 ⟨1, 8, [.nilFunc], .other⟩ (.node 82 ⟨1, 8, [.nilFunc], .other⟩ (.node 81 ⟨1, 8, [.nilFunc], .other⟩ .nil .nil) (.node 83 ⟨1, 8, [.nilFunc], .other⟩ .nil .nil)) (.node 86 ⟨1, 8, [.nilFunc], .other⟩ (.node 85 ⟨1, 8, [.nilFunc], .other⟩ .nil .nil) (.node 87 ⟨1, 8, [.nilFunc], .other⟩ .nil .nil)))) (.node 96 ⟨1, 8, [.nilFunc], .other⟩ (.node 92 ⟨1, 8, [.nilFunc], .other⟩ (.node 90 ⟨1, 24, [.slice none 0 0], (.slice 4)⟩ (.node 89 ⟨2, 16, [.int .i64 0, .int .i64 0], (.array 2 3)⟩ .nil .nil) (.node 91 ⟨1, 8, [.nilFunc], .other⟩ .nil .nil)) (.node 94 ⟨1, 8, [.nilFunc], .other⟩ (.node 93 ⟨1, 8, [.nilFunc], .other⟩ .nil .nil) (.node 95 ⟨1, 8, [.nilFunc], .other⟩ .nil .nil))) (.node 100 ⟨1, 8, [.nilFunc], .other⟩ (.node 98 ⟨1, 8, [.nilFunc], .other⟩ (.node 97 ⟨1, 8, [.map none], .other⟩ .nil .nil) (.node 99 ⟨1, 8, [.nilFunc], .other⟩ .nil .nil)) (.node 102 ⟨1, 8, [.nilFunc], .other⟩ (.node 101 ⟨1, 8, [.nilFunc], .other⟩ .nil .nil) (.node 103 ⟨1, 8, [.map none], .other⟩ .nil .nil))))) (.node 121 ⟨1, 8, [.nilFunc], .other⟩ (.node 112 ⟨3, 48, [.string ⟨#[]⟩, .int .i64 0, .slice none 0 0], (.struct [(0, 1), (1, 1), (2, 1)])⟩ (.node 108 ⟨1, 8, [.map none], .other⟩ (.node 106 ⟨1, 8, [.nilFunc], .other⟩ (.node 105 ⟨1, 8, [.nilFunc], .other⟩ .nil .nil) (.node 107 ⟨1, 8, [.pointer none], .other⟩ .nil .nil)) (.node 110 ⟨4, 80, [.slice none 0 0, .slice none 0 0, .map none, .slice none 0 0], (.struct [(0, 1), (1, 1), (2, 1), (3, 1)])⟩ (.node 109 ⟨4, 80, [.slice none 0 0, .slice none 0 0, .map none, .slice none 0 0], (.struct [(0, 1), (1, 1), (2, 1), (3, 1)])⟩ .nil .nil) (.node 111 ⟨1, 8, [.nilFunc], .other⟩ .nil .nil))) (.node 117 ⟨3, 32, [.string ⟨#[]⟩, .int .i64 0, .int .i64 0], (.struct [(0, 1), (1, 1), (2, 1)])⟩ (.node 115 ⟨1, 8, [.nilFunc], .other⟩ (.node 113 ⟨3, 48, [.string ⟨#[]⟩, .int .i64 0, .slice none 0 0], (.struct [(0, 1), (1, 1), (2, 1)])⟩ .nil .nil) (.node 116 ⟨1, 8, [.pointer none], .other⟩ .nil .nil)) (.node 119 ⟨1, 8, [.nilFunc], .other⟩ (.node 118 ⟨3, 32, [.string ⟨#[]⟩, .int .i64 0, .int .i64 0], (.struct [(0, 1), (1, 1), (2, 1)])⟩ .nil .nil) (.node 120 ⟨1, 8, [.nilFunc], .other⟩ .nil .nil)))) (.node 131 ⟨1, 8, [.nilFunc], .other⟩ (.node 126 ⟨1, 24, [.slice none 0 0], (.slice 150)⟩ (.node 124 ⟨1, 8, [.nilFunc], .other⟩ (.node 122 ⟨1, 8, [.nilFunc], .other⟩ .nil .nil) (.node 125 ⟨1, 8, [.nilFunc], .other⟩ .nil .nil)) (.node 128 ⟨4, 72, [.string ⟨#[]⟩, .int .i64 0, .slice none 0 0, .slice none 0 0], (.struct [(0, 1), (1, 1), (2, 1), (3, 1)])⟩ (.node 127 ⟨1, 24, [.slice none 0 0], (.slice 3)⟩ .nil .nil) (.node 129 ⟨4, 72, [.string ⟨#[]⟩, .int .i64 0, .slice none 0 0, .slice none 0 0], (.struct [(0, 1), (1, 1), (2, 1), (3, 1)])⟩ .nil .nil))) (.node 135 ⟨3, 64, [.string ⟨#[]⟩, .slice none 0 0, .slice none 0 0], (.struct [(0, 1), (1, 1), (2, 1)])⟩ (.node 133 ⟨1, 24, [.slice none 0 0], (.slice 137)⟩ (.node 132 ⟨1, 8, [.nilFunc], .other⟩ .nil .nil) (.node 134 ⟨3, 64, [.string ⟨#[]⟩, .slice none 0 0, .slice none 0 0], (.struct [(0, 1), (1, 1), (2, 1)])⟩ .nil .nil)) (.node 137 ⟨2, 40, [.string ⟨#[]⟩, .slice none 0 0], (.struct [(0, 1), (1, 1)])⟩ (.node 136 ⟨2, 40, [.string ⟨#[]⟩, .slice none 0 0], (.struct [(0, 1), (1, 1)])⟩ .nil .nil) (.node 138 ⟨1, 8, [.nilFunc], .other⟩ .nil .nil))))))) (.node 210 ⟨1, 24, [.slice none 0 0], (.slice 52)⟩ (.node 175 ⟨1, 8, [.nilFunc], .other⟩ (.node 157 ⟨1, 8, [.nilFunc], .other⟩ (.node 148 ⟨4, 56, [.int .i64 0, .int .i64 0, .string ⟨#[]⟩, .slice none 0 0], (.struct [(0, 1), (1, 1), (2, 1), (3, 1)])⟩ (.node 144 ⟨1, 8, [.nilFunc], .other⟩ (.node 142 ⟨3, 56, [.string ⟨#[]⟩, .string ⟨#[]⟩, .slice none 0 0], (.struct [(0, 1), (1, 1), (2, 1)])⟩ (.node 141 ⟨3, 56, [.string ⟨#[]⟩, .string ⟨#[]⟩, .slice none 0 0], (.struct [(0, 1), (1, 1), (2, 1)])⟩ (.node 140 ⟨2, 40, [.string ⟨#[]⟩, .slice none 0 0], (.struct [(0, 1), (1, 1)])⟩ .nil .nil) .nil) (.node 143 ⟨1, 8, [.nilFunc], .other⟩ .nil .nil)) (.node 146 ⟨1, 24, [.slice none 0 0], (.slice 148)⟩ (.node 145 ⟨1, 8, [.map none], .other⟩ .nil .nil) (.node 147 ⟨4, 56, [.int .i64 0, .int .i64 0, .string ⟨#[]⟩, .slice none 0 0], (.struct [(0, 1), (1, 1), (2, 1), (3, 1)])⟩ .nil .nil))) (.node 153 ⟨1, 8, [.nilFunc], .other⟩ (.node 150 ⟨5, 64, [.int .i64 0, .int .i64 0, .int .i64 0, .string ⟨#[]⟩, .slice none 0 0], (.struct [(0, 1), (1, 4)])⟩ (.node 149 ⟨5, 64, [.int .i64 0, .int .i64 0, .int .i64 0, .string ⟨#[]⟩, .slice none 0 0], (.struct [(0, 1), (1, 4)])⟩ .nil .nil) (.node 152 ⟨1, 8, [.nilFunc], .other⟩ .nil .nil)) (.node 155 ⟨1, 8, [.nilFunc], .other⟩ (.node 154 ⟨1, 8, [.nilFunc], .other⟩ .nil .nil) (.node 156 ⟨1, 8, [.nilFunc], .other⟩ .nil .nil)))) (.node 165 ⟨1, 8, [.nilFunc], .other⟩ (.node 161 ⟨1, 8, [.nilFunc], .other⟩ (.node 159 ⟨1, 8, [.nilFunc], .other⟩ (.node 158 ⟨1, 8, [.nilFunc], .other⟩ .nil .nil) (.node 160 ⟨1, 8, [.nilFunc], .other⟩ .nil .nil)) (.node 163 ⟨1, 24, [.slice none 0 0], (.slice 22)⟩ (.node 162 ⟨1, 8, [.int .u64 0], (.int .u64)⟩ .nil .nil) (.node 164 ⟨1, 8, [.nilFunc], .other⟩ .nil .nil))) (.node 170 ⟨1, 8, [.nilFunc], .other⟩ (.node 167 ⟨1, 8, [.nilFunc], .other⟩ (.node 166 ⟨1, 8, [.nilFunc], .other⟩ .nil .nil) (.node 168 ⟨1, 8, [.nilFunc], .other⟩ .nil .nil)) (.node 172 ⟨1, 8, [.nilFunc], .other⟩ (.node 171 ⟨1, 8, [.nilFunc], .other⟩ .nil .nil) (.node 174 ⟨1, 8, [.nilFunc], .other⟩ .nil .nil))))) (.node 192 ⟨1, 8, [.nilFunc], .other⟩ (.node 183 ⟨15, 272, [.string ⟨#[]⟩, .slice none 0 0, .slice none 0 0, .slice none 0 0, .int .i64 0, .string ⟨#[]⟩, .slice none 0 0, .int .i64 0, .int .i64 0, .string ⟨#[]⟩, .slice none 0 0, .slice none 0 0, .slice none 0 0, .slice none 0 0, .int .i64 0], (.struct [(0, 1), (1, 1), (2, 1), (3, 1), (4, 3), (7, 8)])⟩ (.node 179 ⟨17, 344, [.string ⟨#[]⟩, .int .i64 0, .slice none 0 0, .slice none 0 0, .slice none 0 0, .slice none 0 0, .slice none 0 0, .slice none 0 0, .string ⟨#[]⟩, .int .i64 0, .slice none 0 0, .slice none 0 0, .slice none 0 0, .slice none 0 0, .slice none 0 0, .slice none 0 0, .map none], (.struct [(0, 8), (8, 8), (16, 1)])⟩ (.node 177 ⟨1, 8, [.pointer none], .other⟩ (.node 176 ⟨1, 8, [.nilFunc], .other⟩ .nil .nil) (.node 178 ⟨1, 8, [.map none], .other⟩ .nil .nil)) (.node 181 ⟨1, 8, [.nilFunc], .other⟩ (.node 180 ⟨17, 344, [.string ⟨#[]⟩, .int .i64 0, .slice none 0 0, .slice none 0 0, .slice none 0 0, .slice none 0 0, .slice none 0 0, .slice none 0 0, .string ⟨#[]⟩, .int .i64 0, .slice none 0 0, .slice none 0 0, .slice none 0 0, .slice none 0 0, .slice none 0 0, .slice none 0 0, .map none], (.struct [(0, 8), (8, 8), (16, 1)])⟩ .nil .nil) (.node 182 ⟨15, 272, [.string ⟨#[]⟩, .slice none 0 0, .slice none 0 0, .slice none 0 0, .int .i64 0, .string ⟨#[]⟩, .slice none 0 0, .int .i64 0, .int .i64 0, .string ⟨#[]⟩, .slice none 0 0, .slice none 0 0, .slice none 0 0, .slice none 0 0, .int .i64 0], (.struct [(0, 1), (1, 1), (2, 1), (3, 1), (4, 3), (7, 8)])⟩ .nil .nil))) (.node 187 ⟨12, 192, [.int .i64 0, .int .i64 0, .string ⟨#[]⟩, .slice none 0 0, .int .i64 0, .int .i64 0, .string ⟨#[]⟩, .slice none 0 0, .slice none 0 0, .slice none 0 0, .slice none 0 0, .int .i64 0], (.struct [(0, 4), (4, 8)])⟩ (.node 185 ⟨4, 56, [.int .i64 0, .int .i64 0, .string ⟨#[]⟩, .slice none 0 0], (.struct [(0, 1), (1, 1), (2, 1), (3, 1)])⟩ (.node 184 ⟨1, 24, [.slice none 0 0], (.slice 186)⟩ .nil .nil) (.node 186 ⟨4, 56, [.int .i64 0, .int .i64 0, .string ⟨#[]⟩, .slice none 0 0], (.struct [(0, 1), (1, 1), (2, 1), (3, 1)])⟩ .nil .nil)) (.node 189 ⟨1, 8, [.nilFunc], .other⟩ (.node 188 ⟨12, 192, [.int .i64 0, .int .i64 0, .string ⟨#[]⟩, .slice none 0 0, .int .i64 0, .int .i64 0, .string ⟨#[]⟩, .slice none 0 0, .slice none 0 0, .slice none 0 0, .slice none 0 0, .int .i64 0], (.struct [(0, 4), (4, 8)])⟩ .nil .nil) (.node 190 ⟨1, 8, [.nilFunc], .other⟩ .nil .nil)))) (.node 201 ⟨1, 8, [.nilFunc], .other⟩ (.node 197 ⟨1, 8, [.nilFunc], .other⟩ (.node 194 ⟨1, 8, [.nilFunc], .other⟩ (.node 193 ⟨1, 8, [.nilFunc], .other⟩ .nil .nil) (.node 195 ⟨1, 8, [.int .i64 0], (.int .i64)⟩ .nil .nil)) (.node 199 ⟨1, 8, [.nilFunc], .other⟩ (.node 198 ⟨1, 8, [.nilFunc], .other⟩ .nil .nil) (.node 200 ⟨1, 8, [.nilFunc], .other⟩ .nil .nil))) (.node 205 ⟨1, 8, [.nilFunc], .other⟩ (.node 203 ⟨1, 8, [.nilFunc], .other⟩ (.node 202 ⟨1, 4, [.int .u32 0], (.int .u32)⟩ .nil .nil) (.node 204 ⟨1, 8, [.int .u64 0], (.int .u64)⟩ .nil .nil)) (.node 207 ⟨1, 24, [.slice none 0 0], (.slice 5)⟩ (.node 206 ⟨1, 8, [.nilFunc], .other⟩ .nil .nil) (.node 209 ⟨1, 8, [.nilFunc], .other⟩ .nil .nil)))))) (.node 245 ⟨1, 8, [.nilFunc], .other⟩ (.node 228 ⟨1, 8, [.nilFunc], .other⟩ (.node 220 ⟨1, 8, [.nilFunc], .other⟩ (.node 215 ⟨1, 8, [.nilFunc], .other⟩ (.node 213 ⟨1, 8, [.nilFunc], .other⟩ (.node 212 ⟨1, 8, [.nilFunc], .other⟩ (.node 211 ⟨1, 8, [.nilFunc], .other⟩ .nil .nil) .nil) (.node 214 ⟨1, 8, [.nilFunc], .other⟩ .nil .nil)) (.node 217 ⟨1, 8, [.nilFunc], .other⟩ (.node 216 ⟨1, 8, [.nilFunc], .other⟩ .nil .nil) (.node 218 ⟨1, 8, [.pointer none], .other⟩ .nil .nil))) (.node 224 ⟨1, 8, [.nilFunc], .other⟩ (.node 222 ⟨3, 56, [.slice none 0 0, .slice none 0 0, .pointer none], (.struct [(0, 1), (1, 1), (2, 1)])⟩ (.node 221 ⟨3, 56, [.slice none 0 0, .slice none 0 0, .pointer none], (.struct [(0, 1), (1, 1), (2, 1)])⟩ .nil .nil) (.node 223 ⟨1, 8, [.int .u64 0], (.int .u64)⟩ .nil .nil)) (.node 226 ⟨1, 8, [.nilFunc], .other⟩ (.node 225 ⟨1, 8, [.nilFunc], .other⟩ .nil .nil) (.node 227 ⟨1, 8, [.nilFunc], .other⟩ .nil .nil)))) (.node 236 ⟨1, 8, [.nilFunc], .other⟩ (.node 232 ⟨1, 8, [.nilFunc], .other⟩ (.node 230 ⟨1, 8, [.nilFunc], .other⟩ (.node 229 ⟨1, 8, [.nilFunc], .other⟩ .nil .nil) (.node 231 ⟨1, 8, [.nilFunc], .other⟩ .nil .nil)) (.node 234 ⟨1, 8, [.nilFunc], .other⟩ (.node 233 ⟨1, 8, [.nilFunc], .other⟩ .nil .nil) (.node 235 ⟨1, 8, [.nilFunc], .other⟩ .nil .nil))) (.node 241 ⟨1, 8, [.nilFunc], .other⟩ (.node 238 ⟨1, 8, [.nilFunc], .other⟩ (.node 237 ⟨1, 8, [.nilFunc], .other⟩ .nil .nil) (.node 239 ⟨1, 8, [.nilFunc], .other⟩ .nil .nil)) (.node 243 ⟨1, 8, [.nilFunc], .other⟩ (.node 242 ⟨1, 8, [.nilFunc], .other⟩ .nil .nil) (.node 244 ⟨1, 8, [.nilFunc], .other⟩ .nil .nil))))) (.node 265 ⟨1, 8, [.nilFunc], .other⟩ (.node 256 ⟨1, 8, [.pointer none], .other⟩ (.node 251 ⟨1, 8, [.nilFunc], .other⟩ (.node 248 ⟨1, 8, [.nilFunc], .other⟩ (.node 246 ⟨1, 8, [.pointer none], .other⟩ .nil .nil) (.node 249 ⟨1, 8, [.nilFunc], .other⟩ .nil .nil)) (.node 254 ⟨1, 8, [.nilFunc], .other⟩ (.node 253 ⟨1, 8, [.nilFunc], .other⟩ .nil .nil) (.node 255 ⟨1, 8, [.nilFunc], .other⟩ .nil .nil))) (.node 261 ⟨1, 8, [.nilFunc], .other⟩ (.node 259 ⟨1, 8, [.nilFunc], .other⟩ (.node 258 ⟨1, 8, [.nilFunc], .other⟩ .nil .nil) (.node 260 ⟨1, 8, [.nilFunc], .other⟩ .nil .nil)) (.node 263 ⟨3, 56, [.slice none 0 0, .slice none 0 0, .pointer none], (.struct [(0, 1), (1, 1), (2, 1)])⟩ (.node 262 ⟨3, 56, [.slice none 0 0, .slice none 0 0, .pointer none], (.struct [(0, 1), (1, 1), (2, 1)])⟩ .nil .nil) (.node 264 ⟨1, 8, [.nilFunc], .other⟩ .nil .nil)))) (.node 273 ⟨1, 1, [.int .u8 0], (.int .u8)⟩ (.node 269 ⟨0, 0, [], (.array 0 16)⟩ (.node 267 ⟨4, 40, [.pointer none, .pointer none, .pointer none, .string ⟨#[]⟩], (.struct [(0, 1), (1, 1), (2, 1), (3, 1)])⟩ (.node 266 ⟨1, 8, [.nilFunc], .other⟩ .nil .nil) (.node 268 ⟨4, 40, [.pointer none, .pointer none, .pointer none, .string ⟨#[]⟩], (.struct [(0, 1), (1, 1), (2, 1), (3, 1)])⟩ .nil .nil)) (.node 271 ⟨0, 0, [], (.struct [(0, 0)])⟩ (.node 270 ⟨0, 0, [], (.struct [(0, 0)])⟩ .nil .nil) (.node 272 ⟨1, 8, [.nilFunc], .other⟩ .nil .nil))) (.node 277 ⟨1, 4, [.int .i32 0], (.int .i32)⟩ (.node 275 ⟨1, 8, [.nilFunc], .other⟩ (.node 274 ⟨1, 1, [.int .u8 0], (.int .u8)⟩ .nil .nil) (.node 276 ⟨1, 8, [.pointer none], .other⟩ .nil .nil)) (.node 279 ⟨11, 48, [.int .u64 0, .int .u64 0, .int .u32 0, .int .u8 0, .int .u8 0, .int .u8 0, .int .u8 0, .nilFunc, .pointer none, .int .i32 0, .int .i32 0], (.struct [(0, 1), (1, 1), (2, 1), (3, 1), (4, 1), (5, 1), (6, 1), (7, 1), (8, 1), (9, 1), (10, 1)])⟩ (.node 278 ⟨1, 4, [.int .i32 0], (.int .i32)⟩ .nil .nil) (.node 280 ⟨11, 48, [.int .u64 0, .int .u64 0, .int .u32 0, .int .u8 0, .int .u8 0, .int .u8 0, .int .u8 0, .nilFunc, .pointer none, .int .i32 0, .int .i32 0], (.struct [(0, 1), (1, 1), (2, 1), (3, 1), (4, 1), (5, 1), (6, 1), (7, 1), (8, 1), (9, 1), (10, 1)])⟩ .nil .nil))))))))
set_option maxRecDepth 100000 in
theorem tabOkB : tab.okB Try.prog = true := by kernel_rfl
theorem tok : TabOk Try.prog tab := tab_ok tabOkB
end Go.Proofs.Ytnkafjkcjpajgaa
namespace Go.Proofs.Ytnkafjkcjpajgaa
open Go.RowKit
theorem nth {α : Type} {l : List α} {k : Nat} (h : k < l.length) : ∃ a, l[k]? = some a := ⟨_, List.getElem?_eq_getElem h⟩
def rgTs (r : Rg) : List T := [.lit (.int .i64 r.1), .lit (.int .i64 r.2)]
theorem rgTs_len (r : Rg) : (rgTs r).length = 2 := rfl
def rgRow (l : List Rg) : T := .row l.length 2 (l.flatMap rgTs)
theorem Rg.at {l : List Rg} {k : Nat} {r : Rg} (h : l[k]? = some r) : ((l.flatMap rgTs).drop (k * 2)).take 2 = rgTs r := flat_at rgTs 2 rgTs_len h
theorem rgs_one (X : List Rg) (r : Rg) : (X ++ [r]).length = X.length + 1 ∧ (X ++ [r]).flatMap rgTs = X.flatMap rgTs ++ rgTs r := by simp
theorem takeR_snoc {l : List Rg} {k : Nat} {r : Rg} (h : l[k]? = some r) : l.take (k + 1) = l.take k ++ [r] := by
  obtain ⟨h1, rfl⟩ := List.getElem?_eq_some_iff.1 h
  exact List.take_succ_eq_append_getElem h1
set_option maxRecDepth 100000 in
set_option maxHeartbeats 1000000 in
theorem right_af (r : Rg) : AF Try.prog 37 [.agg (rgTs r)] (· = .lit (.bool (rgOk r))) := by
  obtain ⟨a, b⟩ := r
  have hr : rgOk (a, b) = (decide (1 ≤ a) && decide (b ≤ 9999) && decide (a ≤ b)) := rfl
  rw [hr]
  refine af_enter tok Try.func37 Try.ntmps37 Try.results37 rfl (by kernel_rfl) rfl rfl fun F hX => ?_
  cases d1 : decide (1 ≤ a)
  · repeat (first | refine gG ?_ | refine zBf ?_)
    first | refine zR ?_ | refine zQ ?_
    rfl
  · cases d2 : decide (b ≤ 9999)
    · repeat (first | refine gG ?_ | refine zBf ?_)
      first | refine zR ?_ | refine zQ ?_
      rfl
    · repeat (first | refine gG ?_ | refine zBf ?_)
      first | refine zR ?_ | refine zQ ?_
      rfl
set_option maxRecDepth 100000 in
set_option maxHeartbeats 1000000 in
theorem wrong_af (r : Rg) : AF Try.prog 36 [.agg (rgTs r)] (· = .lit (.bool (!rgOk r))) := by
  have hc := right_af r
  generalize rgOk r = o at *
  obtain ⟨a, b⟩ := r
  refine af_enter tok Try.func36 Try.ntmps36 Try.results36 rfl (by kernel_rfl) rfl rfl fun F hX => ?_
  repeat (first | refine gG ?_ | refine zBf ?_)
  refine zCall (hc) ?_
  rintro _ rfl
  cases o
  · repeat (first | refine gG ?_ | refine zBf ?_)
    first | refine zR ?_ | refine zQ ?_
    rfl
  · repeat (first | refine gG ?_ | refine zBf ?_)
    first | refine zR ?_ | refine zQ ?_
    rfl
set_option maxRecDepth 100000 in
set_option maxHeartbeats 1000000 in
theorem idxRg_af (p : Rg → Bool) (f : FuncId) (cap : List T) (l : List Rg) (hf : ∀ a ∈ l, AF Try.prog f (.agg (rgTs a) :: cap) (· = .lit (.bool (p a)))) :
    AF Try.prog 83 [.row l.length 2 (l.flatMap rgTs), .fn (.func f) cap] (· = .lit (.int .i64 (idxI p l))) := by
  refine af_enter tok Try.func83 Try.ntmps83 Try.results83 rfl (by kernel_rfl) rfl rfl fun F hX => ?_
  repeat (first | refine gG ?_ | refine zN1 (fun hlen => ?_) | refine zN2 (fun hlen => ?_))
  refine x_loop [4, 5, 8, 9, 10, 11, 12, 13, 14, 15, 16, 17, 18] (fun k : Nat => [(8, .c (.lit (.int .i64 k)))]) (fun _ => []) (fun k => k ≤ l.length ∧ idxAt p l k) (fun k => l.length - k) 0 ⟨Nat.zero_le _, idxAt_zero p l⟩ ⟨rfl, trivial⟩ rfl fun k hk => ?_
  repeat (first | refine gG ?_ | refine zN1 (fun hlen => ?_) | refine zN2 (fun hlen => ?_))
  refine x_cond rfl (fun h => ?_) (fun h => ?_)
  · have hk' : k < l.length := by simpa using h
    obtain ⟨a, ha⟩ := nth hk'
    have hs := hf a (List.mem_of_getElem? ha)
    repeat (first | refine gG ?_ | refine zN1 (fun hlen => ?_) | refine zN2 (fun hlen => ?_))
    refine lo_idx tok k rfl rfl rfl hk' rfl rfl rfl rfl ?_
    repeat (first | refine gG ?_ | refine zN1 (fun hlen => ?_) | refine zN2 (fun hlen => ?_))
    refine lo_load_pin tok rfl rfl rfl (flat_at rgTs 2 rgTs_len ha) (rgTs_len a) ?_
    repeat (first | refine gG ?_ | refine zN1 (fun hlen => ?_) | refine zN2 (fun hlen => ?_))
    refine v_callc hs rfl (by first | exact rzs_cons rz_c rzs_self | (repeat (first | exact rzs_nil | apply rzs_cons | exact rz_c | exact rz_nil rfl | apply rz_agg | exact rz_own rfl | apply rz_fn | exact rz_ptr rfl | apply rz_tup))) ?_
    rintro _ rfl
    cases hp : p a
    · repeat (first | refine gG ?_ | refine zN1 (fun hlen => ?_) | refine zN2 (fun hlen => ?_))
      exact ⟨k + 1, ⟨hk', idxAt_no hk.2 ha hp⟩, by omega, x_wkd 0 ⟨rfl, trivial⟩ rfl (by repeat (first | exact ag_refl | refine ag_upd rfl ?_ | refine ag_at rfl rfl ?_))⟩
    · repeat (first | refine gG ?_ | refine zN1 (fun hlen => ?_) | refine zN2 (fun hlen => ?_))
      first | refine zR ?_ | refine zQ ?_
      rw [idxAt_yes hk.2 ha hp]; rfl
  · have hk' : k = l.length := by have : ¬ k < l.length := by simpa using h
                                  omega
    subst hk'
    repeat (first | refine gG ?_ | refine zN1 (fun hlen => ?_) | refine zN2 (fun hlen => ?_))
    first | refine zR ?_ | refine zQ ?_
    rw [idxAt_end hk.2]; rfl
set_option maxRecDepth 100000 in
set_option maxHeartbeats 1000000 in
theorem hasRg_af (p : Rg → Bool) (f : FuncId) (cap : List T) (l : List Rg) (hf : ∀ a ∈ l, AF Try.prog f (.agg (rgTs a) :: cap) (· = .lit (.bool (p a)))) :
    AF Try.prog 35 [rgRow l, .fn (.func f) cap] (· = .lit (.bool (l.any p))) := by
  have hc := idxRg_af p f cap l hf
  refine af_enter tok Try.func35 Try.ntmps35 Try.results35 rfl (by kernel_rfl) rfl rfl fun F hX => ?_
  repeat (first | refine gG ?_)
  refine zCall (hc) ?_
  rintro _ rfl
  repeat (first | refine gG ?_)
  first | refine zR ?_ | refine zQ ?_
  rw [← idxI_any]; rfl
def lim (l : List Rg) : List Rg × Int := bif decide (50 < (l.length : Int)) then ([], 2) else (l, 0)
def resT (r : List Rg × Int) : T := .tup [rgRow r.1, .lit (.int .i64 r.2)]
set_option maxRecDepth 100000 in
set_option maxHeartbeats 1000000 in
theorem limited_af (l : List Rg) : AF Try.prog 41 [rgRow l] (· = resT (lim l)) := by
  unfold lim
  refine af_enter tok Try.func41 Try.ntmps41 Try.results41 rfl (by kernel_rfl) rfl rfl fun F hX => ?_
  cases d1 : decide (50 < ((l.length : Nat) : Int))
  · repeat (first | refine gG ?_ | refine zN1 (fun hlen => ?_) | refine zN2 (fun hlen => ?_))
    first | refine zR (ts := [rgRow l, .lit (.int .i64 0)]) ?_ | refine zQ (ts := [rgRow l, .lit (.int .i64 0)]) ?_
    rfl
  · repeat (first | refine gG ?_ | refine zN1 (fun hlen => ?_) | refine zN2 (fun hlen => ?_))
    first | refine zR (ts := [rgRow [], .lit (.int .i64 2)]) ?_ | refine zQ (ts := [rgRow [], .lit (.int .i64 2)]) ?_
    rfl
/-- what the check still has to look at -/
def prevOf (l : List Rg) : Nat → Int
  | 0 => -1
  | k + 1 => (l[k]?.map (·.2)).getD (-1)
theorem fault_step {l : List Rg} {k : Nat} {r : Rg} (h : l[k]? = some r) (p : Int) : faultAt p (l.drop k) = bif rgOk r then (bif decide (r.1 ≤ p + 1) && decide (0 < p) then 21 else faultAt (prevOf l (k + 1)) (l.drop (k + 1))) else 1 := by
  obtain ⟨h1, h2⟩ := List.getElem?_eq_some_iff.1 h
  rw [List.drop_eq_getElem_cons h1, faultAt, h2, prevOf, h]
  rfl
set_option maxRecDepth 100000 in
set_option maxHeartbeats 2000000 in
theorem check_af (l : List Rg) : AF Try.prog 16 [rgRow l] (· = .lit (.int .i64 (faultL l))) := by
  have hfl : faultL l = bif decide (50 < ((l.length : Nat) : Int)) then 2 else faultAt (-1) l := by
    unfold faultL
    by_cases h : l.length ≤ 50
    · rw [decide_eq_true h, decide_eq_false (by omega)]; rfl
    · rw [decide_eq_false h, decide_eq_true (by omega)]; rfl
  rw [hfl]
  clear hfl
  refine af_enter tok Try.func16 Try.ntmps16 Try.results16 rfl (by kernel_rfl) rfl rfl fun F hX => ?_
  cases d1 : decide (50 < ((l.length : Nat) : Int))
  rotate_left
  · repeat (first | refine gG ?_ | refine zN1 (fun hlen => ?_) | refine zN2 (fun hlen => ?_) | refine zAl (fun _ => ?_))
    first | refine zR ?_ | refine zQ ?_
    rfl
  · rw [cond_false]
    repeat (first | refine gG ?_ | refine zN1 (fun hlen => ?_) | refine zN2 (fun hlen => ?_) | refine zAl (fun _ => ?_))
    refine x_loop [2, 3, 4, 10, 11, 12, 13, 14, 15, 16, 17, 18, 19, 20, 21, 22, 23, 24, 25, 26, 27, 28, 29, 30, 31, 32, 33, 34] (fun k : Nat => [(10, .c (.lit (.int .i64 (k : Nat))))]) (fun _ => []) (fun k => k ≤ l.length ∧ faultAt (prevOf l k) (l.drop k) = faultAt (-1) l ∧ ∀ j r, j < k → l[j]? = some r → rgOk r = true) (fun k => l.length - k) 0 ⟨Nat.zero_le _, rfl, fun j r h => by omega⟩ ⟨rfl, trivial⟩ rfl ?_
    rintro k ⟨hk, hf, hok⟩
    repeat (first | refine gG ?_ | refine zN1 (fun hlen => ?_) | refine zN2 (fun hlen => ?_) | refine zAl (fun _ => ?_))
    refine x_cond rfl (fun h => ?_) (fun h => ?_)
    · have hk' : k < l.length := by simpa using h
      obtain ⟨r, hr⟩ := nth hk'
      have hrt := right_af r
      have hat := Rg.at hr
      have hst := fault_step hr (prevOf l k)
      rw [hf] at hst
      have hok' : rgOk r = true → ∀ j q, j < k + 1 → l[j]? = some q → rgOk q = true := fun hb j q hj hq => by
        by_cases e : j = k
        · rw [e, hr] at hq; injection hq with hq; rw [← hq]; exact hb
        · exact hok j q (by omega) hq
      clear h hf
      cases d2 : rgOk r
      · rw [d2, cond_false] at hst
        rw [d2] at hrt
        clear hok hok' d2
        obtain ⟨a, b⟩ := r
        repeat (first | refine gG ?_ | refine zN1 (fun hlen => ?_) | refine zN2 (fun hlen => ?_) | refine zAl (fun _ => ?_))
        refine zIx (k) (hk') ?_
        repeat (first | refine gG ?_ | refine zN1 (fun hlen => ?_) | refine zN2 (fun hlen => ?_) | refine zAl (fun _ => ?_))
        refine zEl (hat) (rgTs_len _) ?_
        repeat (first | refine gG ?_ | refine zN1 (fun hlen => ?_) | refine zN2 (fun hlen => ?_) | refine zAl (fun _ => ?_))
        refine zCall (hrt) ?_
        rintro _ rfl
        repeat (first | refine gG ?_ | refine zN1 (fun hlen => ?_) | refine zN2 (fun hlen => ?_) | refine zAl (fun _ => ?_))
        first | refine zR ?_ | refine zQ ?_
        rw [hst]
        rfl
      · rw [d2, cond_true] at hst
        rw [d2] at hrt
        replace hok' := hok' d2
        cases k with
        | zero =>
          replace hst : faultAt (-1) l = faultAt (prevOf l 1) (l.drop 1) := by
            rw [hst]
            simp [prevOf]
          have d3 : decide ((0 : Int) < ((0 : Nat) : Int)) = false := rfl
          clear hok d2
          obtain ⟨a, b⟩ := r
          repeat (first | refine gG ?_ | refine zN1 (fun hlen => ?_) | refine zN2 (fun hlen => ?_) | refine zAl (fun _ => ?_))
          refine zIx (0) (hk') ?_
          repeat (first | refine gG ?_ | refine zN1 (fun hlen => ?_) | refine zN2 (fun hlen => ?_) | refine zAl (fun _ => ?_))
          refine zEl (hat) (rgTs_len _) ?_
          repeat (first | refine gG ?_ | refine zN1 (fun hlen => ?_) | refine zN2 (fun hlen => ?_) | refine zAl (fun _ => ?_))
          refine zCall (hrt) ?_
          rintro _ rfl
          repeat (first | refine gG ?_ | refine zN1 (fun hlen => ?_) | refine zN2 (fun hlen => ?_) | refine zAl (fun _ => ?_))
          refine ac_draw [1, 1, 1, 1, 1, 1, 1, 1, 1, 1, 1, 1, 1, 1, 1] [0, 1, 2, 3, 4, 5, 6, 7, 8, 9, 10, 11, 12, 13, 14] (by kernel_rfl) (by kernel_rfl) ?_
          refine gW ?_
          refine w_nil ?_
          repeat (first | refine gG ?_ | refine zN1 (fun hlen => ?_) | refine zN2 (fun hlen => ?_) | refine zAl (fun _ => ?_))
          exact ⟨1, ⟨hk', hst.symm, hok'⟩, by omega, x_wkd 0 ⟨rfl, trivial⟩ rfl (by repeat (first | exact ag_refl | refine ag_upd rfl ?_ | refine ag_at rfl rfl ?_))⟩
        | succ m =>
          have hm : m < l.length := by omega
          obtain ⟨q, hq⟩ := nth hm
          have hq2 := (rgOk_iff.1 (hok m q (by omega) hq))
          have hpq : prevOf l (m + 1) = q.2 := by rw [prevOf, hq]; rfl
          have g1 : (l.flatMap rgTs)[m * 2 + 1]? = some (.lit (.int .i64 q.2)) := flat_get rgTs 2 rgTs_len hq (j := 1) (by omega)
          rw [hpq, show decide (0 < q.2) = true from decide_eq_true (by omega), Bool.and_true] at hst
          have d3 : decide ((0 : Int) < ((m + 1 : Nat) : Int)) = true := decide_eq_true (by omega)
          clear hok d2 hr hpq hq
          obtain ⟨a, b⟩ := r
          obtain ⟨qa, qb⟩ := q
          dsimp only at hq2 g1 hst
          cases d4 : decide (a ≤ qb + 1)
          · rw [d4, cond_false] at hst
            repeat (first | refine gG ?_ | refine zN1 (fun hlen => ?_) | refine zN2 (fun hlen => ?_) | refine zAl (fun _ => ?_))
            refine zIx (m + 1) (hk') ?_
            repeat (first | refine gG ?_ | refine zN1 (fun hlen => ?_) | refine zN2 (fun hlen => ?_) | refine zAl (fun _ => ?_))
            refine zEl (hat) (rgTs_len _) ?_
            repeat (first | refine gG ?_ | refine zN1 (fun hlen => ?_) | refine zN2 (fun hlen => ?_) | refine zAl (fun _ => ?_))
            refine zCall (hrt) ?_
            rintro _ rfl
            repeat (first | refine gG ?_ | refine zN1 (fun hlen => ?_) | refine zN2 (fun hlen => ?_) | refine zAl (fun _ => ?_))
            refine ac_draw [1, 1, 1, 1, 1, 1, 1, 1, 1, 1, 1, 1, 1, 1, 1] [0, 1, 2, 3, 4, 5, 6, 7, 8, 9, 10, 11, 12, 13, 14] (by kernel_rfl) (by kernel_rfl) ?_
            refine gW ?_
            try (first | (apply w_un; (focus exact rfl); (focus exact rfl); (focus exact rfl); (focus exact rfl)) | (apply w_no; (focus exact rfl); (focus exact rfl); (focus exact rfl); (focus exact rfl); focus (first | rfl | assumption | exact neg_t (by assumption) | exact neg_f (by assumption))) | (apply w_qg; (focus exact rfl); (focus exact rfl); (focus exact rfl); (focus exact rfl); (focus (first | rfl | assumption | exact neg_t (by assumption) | exact neg_f (by assumption))); (focus (intro _; (refine lo_sub rfl rfl (r := ((m : Nat) : Int)) (by rw [IntWalk.i64_in _ (by omega)]; omega) ?_); exact det_refl))))
            (first | (apply w_un; (focus exact rfl); (focus exact rfl); (focus exact rfl); (focus exact rfl)) | (apply w_no; (focus exact rfl); (focus exact rfl); (focus exact rfl); (focus exact rfl); focus (first | rfl | assumption | exact neg_t (by assumption) | exact neg_f (by assumption))) | (apply w_qg; (focus exact rfl); (focus exact rfl); (focus exact rfl); (focus exact rfl); (focus (first | rfl | assumption | exact neg_t (by assumption) | exact neg_f (by assumption))); (focus (intro _; (refine zIx m hm ?_); exact det_refl))))
            try refine gW ?_
            try (first | (apply w_un; (focus exact rfl); (focus exact rfl); (focus exact rfl); (focus exact rfl)) | (apply w_no; (focus exact rfl); (focus exact rfl); (focus exact rfl); (focus exact rfl); focus (first | rfl | assumption | exact neg_t (by assumption) | exact neg_f (by assumption))) | (apply w_qg; (focus exact rfl); (focus exact rfl); (focus exact rfl); (focus exact rfl); (focus (first | rfl | assumption | exact neg_t (by assumption) | exact neg_f (by assumption))); (focus (intro _; (refine zEl1 g1 ?_); exact det_refl))))
            (first | (apply w_un; (focus exact rfl); (focus exact rfl); (focus exact rfl); (focus exact rfl)) | (apply w_no; (focus exact rfl); (focus exact rfl); (focus exact rfl); (focus exact rfl); focus (first | rfl | assumption | exact neg_t (by assumption) | exact neg_f (by assumption))) | (apply w_qg; (focus exact rfl); (focus exact rfl); (focus exact rfl); (focus exact rfl); (focus (first | rfl | assumption | exact neg_t (by assumption) | exact neg_f (by assumption))); (focus (intro _; (refine lo_add rfl rfl (r := qb + 1) (by rw [IntWalk.i64_in _ (by omega)]) ?_); exact det_refl))))
            try refine gW ?_
            refine w_nil ?_
            repeat (first | refine gG ?_ | refine zN1 (fun hlen => ?_) | refine zN2 (fun hlen => ?_) | refine zAl (fun _ => ?_))
            exact ⟨m + 1 + 1, ⟨hk', hst.symm, hok'⟩, by omega, x_wkd 0 ⟨rfl, trivial⟩ rfl (by repeat (first | exact ag_refl | refine ag_upd rfl ?_ | refine ag_at rfl rfl ?_))⟩
          · rw [d4, cond_true] at hst
            repeat (first | refine gG ?_ | refine zN1 (fun hlen => ?_) | refine zN2 (fun hlen => ?_) | refine zAl (fun _ => ?_))
            refine zIx (m + 1) (hk') ?_
            repeat (first | refine gG ?_ | refine zN1 (fun hlen => ?_) | refine zN2 (fun hlen => ?_) | refine zAl (fun _ => ?_))
            refine zEl (hat) (rgTs_len _) ?_
            repeat (first | refine gG ?_ | refine zN1 (fun hlen => ?_) | refine zN2 (fun hlen => ?_) | refine zAl (fun _ => ?_))
            refine zCall (hrt) ?_
            rintro _ rfl
            repeat (first | refine gG ?_ | refine zN1 (fun hlen => ?_) | refine zN2 (fun hlen => ?_) | refine zAl (fun _ => ?_))
            refine ac_draw [1, 1, 1, 1, 1, 1, 1, 1, 1, 1, 1, 1, 1, 1, 1] [0, 1, 2, 3, 4, 5, 6, 7, 8, 9, 10, 11, 12, 13, 14] (by kernel_rfl) (by kernel_rfl) ?_
            refine gW ?_
            try (first | (apply w_un; (focus exact rfl); (focus exact rfl); (focus exact rfl); (focus exact rfl)) | (apply w_no; (focus exact rfl); (focus exact rfl); (focus exact rfl); (focus exact rfl); focus (first | rfl | assumption | exact neg_t (by assumption) | exact neg_f (by assumption))) | (apply w_qg; (focus exact rfl); (focus exact rfl); (focus exact rfl); (focus exact rfl); (focus (first | rfl | assumption | exact neg_t (by assumption) | exact neg_f (by assumption))); (focus (intro _; (refine lo_sub rfl rfl (r := ((m : Nat) : Int)) (by rw [IntWalk.i64_in _ (by omega)]; omega) ?_); exact det_refl))))
            (first | (apply w_un; (focus exact rfl); (focus exact rfl); (focus exact rfl); (focus exact rfl)) | (apply w_no; (focus exact rfl); (focus exact rfl); (focus exact rfl); (focus exact rfl); focus (first | rfl | assumption | exact neg_t (by assumption) | exact neg_f (by assumption))) | (apply w_qg; (focus exact rfl); (focus exact rfl); (focus exact rfl); (focus exact rfl); (focus (first | rfl | assumption | exact neg_t (by assumption) | exact neg_f (by assumption))); (focus (intro _; (refine zIx m hm ?_); exact det_refl))))
            try refine gW ?_
            try (first | (apply w_un; (focus exact rfl); (focus exact rfl); (focus exact rfl); (focus exact rfl)) | (apply w_no; (focus exact rfl); (focus exact rfl); (focus exact rfl); (focus exact rfl); focus (first | rfl | assumption | exact neg_t (by assumption) | exact neg_f (by assumption))) | (apply w_qg; (focus exact rfl); (focus exact rfl); (focus exact rfl); (focus exact rfl); (focus (first | rfl | assumption | exact neg_t (by assumption) | exact neg_f (by assumption))); (focus (intro _; (refine zEl1 g1 ?_); exact det_refl))))
            (first | (apply w_un; (focus exact rfl); (focus exact rfl); (focus exact rfl); (focus exact rfl)) | (apply w_no; (focus exact rfl); (focus exact rfl); (focus exact rfl); (focus exact rfl); focus (first | rfl | assumption | exact neg_t (by assumption) | exact neg_f (by assumption))) | (apply w_qg; (focus exact rfl); (focus exact rfl); (focus exact rfl); (focus exact rfl); (focus (first | rfl | assumption | exact neg_t (by assumption) | exact neg_f (by assumption))); (focus (intro _; (refine lo_add rfl rfl (r := qb + 1) (by rw [IntWalk.i64_in _ (by omega)]) ?_); exact det_refl))))
            try refine gW ?_
            refine w_nil ?_
            repeat (first | refine gG ?_ | refine zN1 (fun hlen => ?_) | refine zN2 (fun hlen => ?_) | refine zAl (fun _ => ?_))
            first | refine zR ?_ | refine zQ ?_
            rw [hst]
            rfl
    · have hk' : k = l.length := by
        have : ¬ k < l.length := by simpa using h
        omega
      subst hk'
      rw [List.drop_length] at hf
      clear h hok
      repeat (first | refine gG ?_ | refine zN1 (fun hlen => ?_) | refine zN2 (fun hlen => ?_) | refine zAl (fun _ => ?_))
      first | refine zR ?_ | refine zQ ?_
      rw [← hf]
      rfl
end Go.Proofs.Ytnkafjkcjpajgaa
namespace Go.Proofs.Ytnkafjkcjpajgaa
open Go.RowKit
set_option maxRecDepth 100000 in
set_option maxHeartbeats 1000000 in
theorem pairs_af (l : List Rg) (hl : l.length ≤ 1048576) : AF Try.prog 11 [rgRow l] (· = rgRow l) := by
  refine af_enter tok Try.func11 Try.ntmps11 Try.results11 rfl (by kernel_rfl) rfl rfl fun F hX => ?_
  repeat (first | refine gG ?_ | refine zN1 (fun hlen => ?_) | refine zN2 (fun hlen => ?_) | refine zAl (fun _ => ?_) | refine zAp (fun _ => ?_))
  refine x_own 3 89 2 rfl rfl rfl rfl rfl ?_
  refine x_loop [3, 5, 8, 9, 10, 11, 12, 13, 14, 15, 16, 17, 18, 19, 20] (fun y : Nat × Value => [(8, .c (.lit (.int .i64 (y.1 : Nat)))), (3, .own 0 y.2)]) (fun y => [.row y.2 89 2 (l.take y.1).length ((l.take y.1).flatMap rgTs)])
    (fun y => y.1 ≤ l.length) (fun y => l.length - y.1) (0, .slice none 0 0) (Nat.zero_le _) ⟨rfl, rfl, trivial⟩ rfl ?_
  rintro ⟨k, v⟩ hk
  dsimp only at hk ⊢
  repeat (first | refine gG ?_ | refine zN1 (fun hlen => ?_) | refine zN2 (fun hlen => ?_) | refine zAl (fun _ => ?_) | refine zAp (fun _ => ?_))
  refine x_cond rfl (fun h => ?_) (fun h => ?_)
  · have hk' : k < l.length := by simpa using h
    obtain ⟨r, hr⟩ := nth hk'
    have hat := Rg.at hr
    have hone := rgs_one (l.take k) r
    rw [← takeR_snoc hr] at hone
    have hle : (l.take k).length ≤ 1048576 := by rw [List.length_take]; omega
    clear h hr
    generalize l.take k = A at *
    generalize hA' : l.take (k + 1) = A' at *
    obtain ⟨a, b⟩ := r
    repeat (first | refine gG ?_ | refine zN1 (fun hlen => ?_) | refine zN2 (fun hlen => ?_) | refine zAl (fun _ => ?_) | refine zAp (fun _ => ?_))
    refine zIx (k) (hk') ?_
    repeat (first | refine gG ?_ | refine zN1 (fun hlen => ?_) | refine zN2 (fun hlen => ?_) | refine zAl (fun _ => ?_) | refine zAp (fun _ => ?_))
    refine zEl (hat) (rgTs_len _) ?_
    repeat (first | refine gG ?_ | refine zN1 (fun hlen => ?_) | refine zN2 (fun hlen => ?_) | refine zAl (fun _ => ?_) | refine zAp (fun _ => ?_))
    refine zBda ?_
    repeat (first | refine gG ?_ | refine zN1 (fun hlen => ?_) | refine zN2 (fun hlen => ?_) | refine zAl (fun _ => ?_) | refine zAp (fun _ => ?_))
    exact ⟨(k + 1, _), hk', by simp only; omega, x_wkd 1 ⟨rfl, rfl, trivial⟩ (by dsimp only; rw [hA', hone.1, hone.2]; rfl) (by repeat (first | exact ag_refl | refine ag_upd rfl ?_ | refine ag_at rfl rfl ?_))⟩
  · have hk' : k = l.length := by
      have : ¬ k < l.length := by simpa using h
      omega
    subst hk'
    clear h
    rw [List.take_length]
    repeat (first | refine gG ?_ | refine zN1 (fun hlen => ?_) | refine zN2 (fun hlen => ?_) | refine zAl (fun _ => ?_) | refine zAp (fun _ => ?_))
    first | refine zR ?_ | refine zQ ?_
    rfl
theorem arr_guard : Try.prog.eqGuardType Try.prog.depth 89 = false := by kernel_rfl
set_option maxRecDepth 100000 in
theorem arr_info : ∃ i, Try.prog.info? 3 = some i := ⟨_, rfl⟩
set_option maxRecDepth 100000 in
theorem eq_arr (d : Nat) (a b : Int) (w : World) : (Op.equalIn (d + 1 + 1) 89 (.agg [.int .i64 a, .int .i64 b].toArray) (.agg [.int .i64 a, .int .i64 b].toArray)).run Try.prog w = .ok true w := by
  obtain ⟨i, hi⟩ := arr_info
  rw [run_equalIn_array w (d + 1) _ _ Try.underlying89 hi]
  have hc : Try.prog.cellsOf 3 = 1 := by kernel_rfl
  rw [hc]
  simp [Op.eqItems, List.range, List.range.loop, part, Try.isAgg3, run_equalIn_int w _ _ _ _ _ _ Try.underlying3]
set_option maxRecDepth 100000 in
theorem lo_neqA {F : Frm} {d : Option Tmp} {ty : TypeId} {pos : String} {aft : Array Edge} {g : Option (Nat × Bool)} {ρ : Operand → AV} {hp : List Blk} {K : AV → List Blk → Prop} {t' : TypeId} {x y : Operand} (u : Rg) (h : K (.c (.lit (.bool false))) hp) (hx : ρ x = .c (.agg (rgTs u))) (hy : ρ y = .c (.agg (rgTs u))) : LO Try.prog F ⟨d, .binOp .neq 89 x y t', ty, pos, aft, g⟩ ρ hp K := by
  obtain ⟨a, b⟩ := u
  refine LO.same (fun M e w he hh => ?_) h
  have h1 := he x (by simp [Op.operands])
  rw [hx] at h1
  have h2 := he y (by simp [Op.operands])
  rw [hy] at h2
  simp only [RA, RT, rgTs, RTs] at h1 h2
  obtain ⟨xs, h1, q0, r0, rfl, rfl, q1, r1, rfl, rfl, rfl⟩ := h1
  obtain ⟨ys, h2, q0, r0, rfl, rfl, q1, r1, rfl, rfl, rfl⟩ := h2
  refine ⟨.bool false, ?_, by simp only [RA, RT]⟩
  have hg := run_eqGuard_agg (P := Try.prog) w .neq 89 x y [.int .i64 a, .int .i64 b].toArray [.int .i64 a, .int .i64 b].toArray arr_guard
  have hr := run_neq_struct (P := Try.prog) w 89 [.int .i64 a, .int .i64 b].toArray [.int .i64 a, .int .i64 b].toArray
  have he2 := eq_arr 9998 a b w
  rw [show (9998 + 1 + 1) = 10000 from rfl] at he2
  rw [he2, Result.andThen_ok] at hr
  simp [execOp, h1, h2, hg, hr]
set_option maxRecDepth 100000 in
set_option maxHeartbeats 1000000 in
theorem equal_af (l : List Rg) : AF Try.prog 46 [rgRow l, rgRow l] (· = .lit (.bool true)) := by
  have q1 : decide (((l.length : Nat) : Int) = ((l.length : Nat) : Int)) = true := decide_eq_true rfl
  refine af_enter tok Try.func46 Try.ntmps46 Try.results46 rfl (by kernel_rfl) rfl rfl fun F hX => ?_
  repeat (first | refine gG ?_ | refine zN1 (fun hlen => ?_) | refine zN2 (fun hlen => ?_))
  refine x_loop [4, 5, 13, 14, 15, 16, 17, 18, 19, 20, 21, 22, 23, 24, 25] (fun k : Nat => [(13, .c (.lit (.int .i64 (k : Nat))))]) (fun _ => []) (fun k => k ≤ l.length) (fun k => l.length - k) 0 (Nat.zero_le _) ⟨rfl, trivial⟩ rfl ?_
  rintro k hk
  repeat (first | refine gG ?_ | refine zN1 (fun hlen => ?_) | refine zN2 (fun hlen => ?_))
  refine x_cond rfl (fun h => ?_) (fun h => ?_)
  · have hk' : k < l.length := by simpa using h
    obtain ⟨r, hr⟩ := nth hk'
    have hat := Rg.at hr
    clear h hr
    repeat (first | refine gG ?_ | refine zN1 (fun hlen => ?_) | refine zN2 (fun hlen => ?_))
    refine ac_draw [1, 1, 1, 1, 1, 1, 1, 1, 1] [0, 1, 2, 3, 4, 5, 6, 7, 8] (by kernel_rfl) (by kernel_rfl) ?_
    refine gW ?_
    apply w_q; (focus exact rfl); (focus exact rfl); focus (intro _; (refine zIx k hk' ?_); exact det_refl)
    apply w_q; (focus exact rfl); (focus exact rfl); focus (intro _; (refine zEl hat (rgTs_len _) ?_); exact det_refl)
    refine gW ?_
    apply w_q; (focus exact rfl); (focus exact rfl); focus (intro _; (refine zIx k hk' ?_); exact det_refl)
    apply w_q; (focus exact rfl); (focus exact rfl); focus (intro _; (refine zEl hat (rgTs_len _) ?_); exact det_refl)
    apply w_q; (focus exact rfl); (focus exact rfl); focus (intro _; (refine lo_neqA r ?_ rfl rfl); exact det_refl)
    refine w_nil ?_
    repeat (first | refine gG ?_ | refine zN1 (fun hlen => ?_) | refine zN2 (fun hlen => ?_))
    exact ⟨k + 1, hk', by omega, x_wkd 0 ⟨rfl, trivial⟩ rfl (by repeat (first | exact ag_refl | refine ag_upd rfl ?_ | refine ag_at rfl rfl ?_))⟩
  · have hk' : k = l.length := by
      have : ¬ k < l.length := by simpa using h
      omega
    subst hk'
    clear h
    repeat (first | refine gG ?_ | refine zN1 (fun hlen => ?_) | refine zN2 (fun hlen => ?_))
    first | refine zR ?_ | refine zQ ?_
    rfl
set_option maxRecDepth 100000 in
set_option maxHeartbeats 1000000 in
theorem same_af (l : List Rg) (hl : l.length ≤ 1048576) : AF Try.prog 13 [rgRow l, rgRow l] (· = .lit (.bool true)) := by
  have hp := pairs_af l hl
  have he := equal_af l
  refine af_enter tok Try.func13 Try.ntmps13 Try.results13 rfl (by kernel_rfl) rfl rfl fun F hX => ?_
  repeat (first | refine gG ?_)
  refine zCall (hp) ?_
  rintro _ rfl
  repeat (first | refine gG ?_)
  refine zCall (he) ?_
  rintro _ rfl
  repeat (first | refine gG ?_)
  first | refine zR ?_ | refine zQ ?_
  rfl
end Go.Proofs.Ytnkafjkcjpajgaa
