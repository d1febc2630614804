/-
  Texts of this proof, part 8: Ab34 Tza Tzb Tml Tnq Tzc.
-/
import Derived.Test.YtllgibfmddihgaaDoorQKindSays7
import Derived.Laws.StructEq
import Derived.Lib.AppendStr
import Derived.Lib.AppendZerosOnto
import Derived.Lib.MinMax
namespace Go.Proofs.YtllgibfmddihgaaDoor
open Go.RowKit
theorem lits_rt (M : Mm) : ∀ l : List Value, RTs M (l.map T.lit) l
  | [] => by simp only [List.map_nil, RTs]
  | v :: l => by simp only [List.map_cons, RTs]; exact ⟨v, l, rfl, by simp only [RT], lits_rt M l⟩
section
variable {P : Program} {F : Frm} {L : Tab} {d : Option Tmp} {ty : TypeId} {pos : String} {aft : Array Edge} {g : Option (Nat × Bool)} {ρ : Operand → AV} {hp : List Blk} {K : AV → List Blk → Prop}
theorem lo_cap_nil (hL : TabOk P L) {t el : TypeId} {ti : TI} {x : Operand} (hx : ρ x = .c (.lit (.slice none 0 0))) (ht : L.look t = some ti) (hd : ti.d = .slice el) (h : K (.c (.lit (.int .i64 0))) hp) : LO P F ⟨d, .call { callee := .builtin .cap, args := #[x], argTypes := #[t] }, ty, pos, aft, g⟩ ρ hp K := by
  refine LO.same (fun M e w he hh => ?_) h
  have h1 := he x (by first | (simp [Op.operands]; done) | simp [Op.operands, Call.operands])
  rw [hx] at h1
  simp only [RA, RT] at h1
  exact ⟨_, by simp [execOp, resolve, invoke, builtin, Builtin.cap_, h1, run_underlying (hL.slice ht hd), goInt]; rfl, by simp only [RA, RT]⟩
theorem lo_hi_nil (hL : TabOk P L) {t el : TypeId} {ti te : TI} {x y : Operand} {k : IntKind} (hx : ρ x = .c (.lit (.slice none 0 0))) (hy : ρ y = .c (.lit (.int k 0))) (ht : L.look t = some ti) (hd : ti.d = .slice el) (hte : L.look el = some te) (hK : K (.c (.lit (.slice none 0 0))) hp) : LO P F ⟨d, .slice t x none (some y) none, ty, pos, aft, g⟩ ρ hp K := by
  refine LO.same (fun M e w he _ => ?_) hK
  have h1 := he x (by simp [Op.operands])
  rw [hx] at h1
  simp only [RA, RT] at h1
  have h2 := he y (by simp [Op.operands])
  rw [hy] at h2
  simp only [RA, RT] at h2
  refine ⟨.slice none 0 0, ?_, by simp only [RA, RT]⟩
  have hb := run_sliceBound (P := P) (w := w) k (0 : Int) 0 .sliceAcap (by omega) (by omega)
  simp [execOp, Instr.sliceAt, Instr.slice, Instr.sliceBounds, h1, h2, run_underlying (hL.slice ht hd), hL.sizeOf hte, hb]
theorem exec_append2 {e : Operand → Value} {x y : Operand} {t u : TypeId} (w : World) {v' : Value} {w' : World} (h : (Builtin.append_ #[t, u] ty #[e x, e y]).run P w = .ok v' w') :
    (execOp e ⟨d, .call { callee := .builtin .append, args := #[x, y], argTypes := #[t, u] }, ty, pos, aft, g⟩).run P w = .ok (.value v') w' := by
  simp [execOp, resolve, invoke, builtin, h]
theorem lo_app0 (hL : TabOk P L) {t tn el : TypeId} {ti tin te : TI} {x y : Operand} (n : Nat) {kn : IntKind} (hn0 : 0 < n) (hx : ρ x = .c (.lit (.slice none 0 0))) (hy : ρ y = .c (.lit (.int .i64 (n : Nat)))) (ht : L.look t = some ti) (hd : ti.d = .slice el) (htn : L.look tn = some tin) (hdn : tin.d = .int kn) (hte : L.look el = some te) (h0 : 0 < te.size) (hbytes : n * te.bytes ≤ 140737488355328) (hn : n ≤ 140737488355328)
    (h : ∀ v' ts, K (.own hp.length v') (hp ++ [.row v' el te.size n ts])) : LO P F ⟨d, .call { callee := .builtin .append, args := #[x, y], argTypes := #[t, tn] }, ty, pos, aft, g⟩ ρ hp K := by
  refine ⟨fun M e w he hh => ?_⟩
  have h1 := he x (by first | (simp [Op.operands]; done) | simp [Op.operands, Call.operands])
  rw [hx] at h1
  simp only [RA, RT] at h1
  have h2 := he y (by first | (simp [Op.operands]; done) | simp [Op.operands, Call.operands])
  rw [hy] at h2
  simp only [RA, RT] at h2
  obtain ⟨inf, z, hi1, hi2, hi3, hi4, hi5, hi6, _⟩ := hL.info hte
  have g1 := Lib.run_append_grow_zeros (P := P) w t tn ty el inf z .i64 kn (hL.slice ht hd) (hL.int htn hdn) hi1 hi4 none 0 0 [] (by simp [Builtin.firstCells]) n hn0 (by omega) (by omega) (by omega) (by rw [hi3]; omega) (by rw [hi3]; exact growslice_fits (by omega) (by simpa using hbytes))
  simp only [Nat.zero_add] at g1
  rw [← h1, ← h2] at g1
  rw [exec_append2 w g1]
  have hge := grownCap_ge w n 0 el
  have hcm : grownCap w n 0 el ≤ maxLen := grownCap_le_maxLen w n 0 el (by unfold maxLen; omega)
  have hzl : (Builtin.zeroCells z.cells n).toList.length = n * te.size := by rw [Array.length_toList, size_zeroCells, hi6.1]
  have hone : OneAll (Builtin.zeroCells z.cells n).toList := by
    intro u hu
    simp only [Builtin.zeroCells, Array.toList_map, List.mem_map, Array.mem_toList_iff, Array.mem_range] at hu
    obtain ⟨j, hj, rfl⟩ := hu
    have hm : j % z.cells.size < z.cells.size := Nat.mod_lt _ (by rw [hi6.1]; omega)
    rw [getElem!_pos z.cells _ hm]
    refine hi6.2 _ ?_
    rw [← hi5]
    exact Array.getElem_mem_toList hm
  have hown : OwnsO (w.drew.alloc (.cells (#[] ++ Builtin.zeroCells z.cells n ++ Builtin.zeroCells z.cells (grownCap w n 0 el - n)) el)) el te.size (.slice (some ⟨w.heap.size, 0, none⟩) n (grownCap w n 0 el)) n (Builtin.zeroCells z.cells n).toList := by
    refine ⟨hzl, .inr ⟨w.heap.size, 0, _, _, rfl, heap_alloc_new w.drew _, hge, hcm, ?_, ?_⟩⟩
    · simp only [Array.size_append, size_zeroCells, hi6.1, Nat.zero_add, List.size_toArray, List.length_nil]
      rw [← Nat.add_mul]
      exact Nat.mul_le_mul_right _ (by omega)
    · simp only [Array.toList_append, List.drop_zero, List.nil_append]
      rw [← hzl]
      exact List.take_left
  generalize hxs : (Builtin.zeroCells z.cells n).toList = xs at *
  refine ⟨M, _, _, h (.slice (some ⟨w.heap.size, 0, none⟩) n (grownCap w n 0 el)) (xs.map T.lit), Ext.refl _ _, ?_, by simp only [RA]; exact ⟨trivial, rfl⟩⟩
  refine push_row (w' := w.drew.alloc (.cells (#[] ++ Builtin.zeroCells z.cells n ++ Builtin.zeroCells z.cells (grownCap w n 0 el - n)) el)) (x := .row (.slice (some ⟨w.heap.size, 0, none⟩) n (grownCap w n 0 el)) el te.size n (xs.map T.lit)) hh rfl rfl rfl (by simp) (fun b hb => heap_alloc_old w.drew _ hb) (Ext.refl _ _) (fun p v h1 h2 => by rw [h2] at h1; cases h1) ⟨xs, hown, lits_rt M xs, hone, h0⟩ (fun b hb => ?_)
  obtain rfl : w.heap.size = b := by simpa [Blk.blk, Value.ownBlock] using hb
  exact ⟨Nat.le_refl _, fun p hp => mem_fresh hh.mem (by omega)⟩
theorem zCap0 {t el : TypeId} {ti : TI} {x : Operand} (h : K (.c (.lit (.int .i64 0))) hp) (hL : TabOk P L := by exact tok) (hx : ρ x = .c (.lit (.slice none 0 0)) := by exact rfl) (ht : L.look t = some ti := by exact rfl) (hd : ti.d = .slice el := by exact rfl) : LO P F ⟨d, .call { callee := .builtin .cap, args := #[x], argTypes := #[t] }, ty, pos, aft, g⟩ ρ hp K := lo_cap_nil hL hx ht hd h
theorem zHn {t el : TypeId} {ti te : TI} {x y : Operand} {k : IntKind} (h : K (.c (.lit (.slice none 0 0))) hp) (hL : TabOk P L := by exact tok) (hx : ρ x = .c (.lit (.slice none 0 0)) := by exact rfl) (hy : ρ y = .c (.lit (.int k 0)) := by exact rfl) (ht : L.look t = some ti := by exact rfl) (hd : ti.d = .slice el := by exact rfl) (hte : L.look el = some te := by exact rfl) : LO P F ⟨d, .slice t x none (some y) none, ty, pos, aft, g⟩ ρ hp K := lo_hi_nil hL hx hy ht hd hte h
theorem zAp0 {t tn el : TypeId} {ti tin te : TI} {x y : Operand} {kn : IntKind} {k : Nat} {hp' : Value → List T → List Blk} (n : Nat) (hn0 : 0 < n) (hn : n ≤ 1048576) (h : ∀ v' ts, K (.own k v') (hp' v' ts)) (hL : TabOk P L := by exact tok) (hx : ρ x = .c (.lit (.slice none 0 0)) := by exact rfl) (hy : ρ y = .c (.lit (.int .i64 (n : Nat))) := by exact rfl) (ht : L.look t = some ti := by exact rfl) (hd : ti.d = .slice el := by exact rfl) (htn : L.look tn = some tin := by exact rfl) (hdn : tin.d = .int kn := by exact rfl) (hte : L.look el = some te := by exact rfl) (h0 : Nat.ble 1 te.size = true := by exact rfl) (hb : te.bytes ≤ 1048576 := by decide) (hk : lenU hp = some k := by exact rfl)
    (hf : ∀ v' ts, evl (hp ++ [.row v' el te.size n ts]) = some (hp' v' ts) := by exact fun _ _ => rfl) : LO P F ⟨d, .call { callee := .builtin .append, args := #[x, y], argTypes := #[t, tn] }, ty, pos, aft, g⟩ ρ hp K :=
  lo_app0 hL n hn0 hx hy ht hd htn hdn hte (Nat.le_of_ble_eq_true h0) (Nat.le_trans (Nat.mul_le_mul hn hb) (by decide)) (by omega) fun v' ts => by
    rw [← lenU_eq hk, ← evl_eq (hf v' ts)]; exact h v' ts
end
end Go.Proofs.YtllgibfmddihgaaDoor
namespace Go.Proofs.YtllgibfmddihgaaDoor
open Go.RowKit
def strAll (l : List ByteArray) : List T := l.flatMap strTs
theorem strAll_app (a b : List ByteArray) : strAll (a ++ b) = strAll a ++ strAll b := by simp [strAll]
set_option maxRecDepth 100000 in
set_option maxHeartbeats 1000000 in
theorem growY_ag (n : Nat) (hn : n ≤ 1048576) : AG Tryd.prog 162 [.c (.lit (.slice none 0 0)), .c (.lit (.int .i64 (n : Nat)))] [] (fun r hs => ∃ v', r = .own 0 v' ∧ hs = [.row v' 64 3 0 []]) := by
  have d0 : decide (((n : Nat) : Int) < 0) = false := decide_eq_false (by omega)
  rcases Nat.eq_zero_or_pos n with rfl | h0
  · have d1 : decide ((0 : Int) < (((0 : Nat) : Nat) : Int) - (0 - 0)) = false := rfl
    refine ag_enter 2 tok Tryd.func162 Tryd.ntmps162 Tryd.results162 rfl (by kernel_rfl) rfl fun F => ?_
    repeat (first | refine gO ?_ | refine zSub ?_ | refine zCap0 ?_ | refine ac_seq ?_ | refine ac_block ?_ | refine ac_region ?_ | refine ac_skip ?_ | refine zT ?_ | refine zF ?_)
    refine x_own 4 64 3 rfl rfl rfl rfl rfl ?_
    repeat (first | refine gG ?_ | refine zN1 (fun hlen => ?_) | refine zN2 (fun hlen => ?_) | refine zSub ?_ | refine zAp (fun _ => ?_))
    refine zG ?_
    exact ⟨_, rfl, rfl⟩
  · have d1 : decide ((0 : Int) < ((n : Nat) : Int) - (0 - 0)) = true := decide_eq_true (by omega)
    refine ag_enter 2 tok Tryd.func162 Tryd.ntmps162 Tryd.results162 rfl (by kernel_rfl) rfl fun F => ?_
    repeat (first | refine gG ?_ | refine zSub ?_ | refine zCap0 ?_ | refine zHn ?_)
    refine zAp0 n h0 hn (fun _ ts => ?_)
    repeat (first | refine gG ?_ | refine zSub ?_ | refine zCap0 ?_ | refine zHn ?_)
    refine zQh (n := n) 0 (Nat.zero_le _) (fun _ => ?_)
    repeat (first | refine gG ?_ | refine zN1 (fun hlen => ?_) | refine zN2 (fun hlen => ?_) | refine zSub ?_ | refine zAp (fun _ => ?_))
    refine zG ?_
    exact ⟨_, rfl, rfl⟩
theorem catY_at {L : List (List Y)} {k : Nat} {a : List Y} (h : L[k]? = some a) : (L.map fun x => Y.row x)[k * 1]? = some (Y.row a) := by simp [h]
set_option maxRecDepth 100000 in
set_option maxHeartbeats 1000000 in
theorem concatY_af (L : List (List Y)) (hL : L.flatten.length ≤ 1048576) (hl : L.length ≤ 1048576) : AF Tryd.prog 122 [.row L.length 1 (L.map fun x => Y.row x)] (· = Y.row L.flatten) := by
  have hg := growY_ag L.flatten.length hL
  refine af_enter tok Tryd.func122 Tryd.ntmps122 Tryd.results122 rfl (by kernel_rfl) rfl rfl fun F hX => ?_
  repeat (first | refine gG ?_ | refine zN1 (fun hlen => ?_) | refine zN2 (fun hlen => ?_) | refine zAp (fun _ => ?_))
  refine x_loop [3, 5, 11, 12, 13, 14, 15, 16, 17, 18, 19, 20, 21, 22] (fun k : Nat => [(11, .c (.lit (.int .i64 (k : Nat)))), (3, .c (.lit (.int .i64 ((L.take k).flatten.length : Nat))))]) (fun _ => []) (fun k => k ≤ L.length) (fun k => L.length - k) 0 (Nat.zero_le _) ⟨rfl, rfl, trivial⟩ rfl ?_
  intro k hk
  repeat (first | refine gG ?_ | refine zN1 (fun hlen => ?_) | refine zN2 (fun hlen => ?_) | refine zAp (fun _ => ?_))
  refine x_cond rfl (fun h => ?_) (fun h => ?_)
  · have hk' : k < L.length := by simpa using h
    obtain ⟨a, ha⟩ := nth hk'
    have hat := catY_at ha
    have hsn : (L.take (k + 1)).flatten.length = (L.take k).flatten.length + a.length := by rw [List.take_add_one, ha]; simp
    have hle : (L.take (k + 1)).flatten.length ≤ L.flatten.length := by
      have := congrArg (fun r => r.flatten.length) (List.take_append_drop (k + 1) L)
      simp only [List.flatten_append, List.length_append] at this
      omega
    have d0 : decide ((((L.take k).flatten.length + a.length : Nat) : Int) < 0) = false := decide_eq_false (by omega)
    clear h ha
    repeat (first | refine gG ?_ | refine zN1 (fun hlen => ?_) | refine zN2 (fun hlen => ?_) | refine zAp (fun _ => ?_))
    refine zIx k hk' ?_
    repeat (first | refine gG ?_ | refine zN1 (fun hlen => ?_) | refine zN2 (fun hlen => ?_) | refine zAp (fun _ => ?_))
    refine zEl1 hat ?_
    repeat (first | refine gA ?_ | refine zN1 (fun hlen => ?_) | refine zN2 (fun hlen => ?_))
    exact ⟨k + 1, hk', by omega, x_wkd 0 ⟨rfl, by rw [hsn]; rfl, trivial⟩ rfl (by repeat (first | exact ag_refl | refine ag_upd rfl ?_ | refine ag_at rfl rfl ?_))⟩
  have hk' : k = L.length := by
    have : ¬ k < L.length := by simpa using h
    omega
  subst hk'
  clear h hk
  rw [List.take_length]
  repeat (first | refine gG ?_ | refine zN1 (fun hlen => ?_) | refine zN2 (fun hlen => ?_) | refine zAp (fun _ => ?_))
  refine zCallG [] hg ?_
  rintro _ _ ⟨v', rfl, rfl⟩
  refine ⟨.own 0 v', _, re_own, rfl, rfl, ?_⟩
  clear hg
  repeat (first | refine gG ?_ | refine zN1 (fun hlen => ?_) | refine zN2 (fun hlen => ?_) | refine zAp (fun _ => ?_))
  refine x_loop [6, 8, 27, 28, 29, 30, 31, 32, 33, 34] (fun y : Nat × Value => [(27, .c (.lit (.int .i64 (y.1 : Nat)))), (6, .own 0 y.2)]) (fun y => [.row y.2 64 3 (L.take y.1).flatten.length (Y.all (L.take y.1).flatten)]) (fun y => y.1 ≤ L.length) (fun y => L.length - y.1) (0, v') (Nat.zero_le _) ⟨rfl, rfl, trivial⟩ rfl ?_
  rintro ⟨k, v⟩ hk
  dsimp only at hk ⊢
  repeat (first | refine gG ?_ | refine zN1 (fun hlen => ?_) | refine zN2 (fun hlen => ?_) | refine zAp (fun _ => ?_))
  refine x_cond rfl (fun h => ?_) (fun h => ?_)
  · have hk' : k < L.length := by simpa using h
    obtain ⟨a, ha⟩ := nth hk'
    have hat := catY_at ha
    have hsn : (L.take (k + 1)).flatten = (L.take k).flatten ++ a := by rw [List.take_add_one, ha]; simp
    have hle : (L.take (k + 1)).flatten.length ≤ L.flatten.length := by
      have := congrArg (fun r => r.flatten.length) (List.take_append_drop (k + 1) L)
      simp only [List.flatten_append, List.length_append] at this
      omega
    have hl1 : (L.take (k + 1)).flatten.length = (L.take k).flatten.length + a.length := by rw [hsn, List.length_append]
    have hc1 : Y.all (L.take (k + 1)).flatten = Y.all (L.take k).flatten ++ Y.all a := by rw [hsn]; exact Y.all_app _ _
    clear h ha hsn
    repeat (first | refine gG ?_ | refine zN1 (fun hlen => ?_) | refine zN2 (fun hlen => ?_) | refine zAp (fun _ => ?_))
    refine zIx k hk' ?_
    repeat (first | refine gG ?_ | refine zN1 (fun hlen => ?_) | refine zN2 (fun hlen => ?_) | refine zAp (fun _ => ?_))
    refine zEl1 hat ?_
    repeat (first | refine gG ?_ | refine zN1 (fun hlen => ?_) | refine zN2 (fun hlen => ?_) | refine zAp (fun _ => ?_))
    exact ⟨(k + 1, _), hk', by simp only; omega, x_wkd 1 ⟨rfl, rfl, trivial⟩ (by simp only [hl1, hc1]; rfl) (by repeat (first | exact ag_refl | refine ag_upd rfl ?_ | refine ag_at rfl rfl ?_))⟩
  · have hk' : k = L.length := by
      have : ¬ k < L.length := by simpa using h
      omega
    subst hk'
    clear h
    rw [List.take_length]
    repeat (first | refine gG ?_ | refine zN1 (fun hlen => ?_) | refine zN2 (fun hlen => ?_) | refine zAp (fun _ => ?_))
    first | refine zR ?_ | refine zQ ?_
    rfl
theorem catY2_af (a b : List Y) (h : a.length + b.length ≤ 1048576) : AF Tryd.prog 122 [.row 2 1 [Y.row a, Y.row b]] (· = Y.row (a ++ b)) := by
  have := concatY_af [a, b] (by simpa using h) (by simp)
  simpa using this
set_option maxRecDepth 100000 in
set_option maxHeartbeats 1000000 in
theorem growS_ag (n : Nat) (hn : n ≤ 1048576) : AG Tryd.prog 177 [.c (.lit (.slice none 0 0)), .c (.lit (.int .i64 (n : Nat)))] [] (fun r hs => ∃ v', r = .own 0 v' ∧ hs = [.row v' 9 1 0 []]) := by
  have d0 : decide (((n : Nat) : Int) < 0) = false := decide_eq_false (by omega)
  rcases Nat.eq_zero_or_pos n with rfl | h0
  · have d1 : decide ((0 : Int) < (((0 : Nat) : Nat) : Int) - (0 - 0)) = false := rfl
    refine ag_enter 2 tok Tryd.func177 Tryd.ntmps177 Tryd.results177 rfl (by kernel_rfl) rfl fun F => ?_
    repeat (first | refine gO ?_ | refine zSub ?_ | refine zCap0 ?_ | refine ac_seq ?_ | refine ac_block ?_ | refine ac_region ?_ | refine ac_skip ?_ | refine zT ?_ | refine zF ?_)
    refine x_own 4 9 1 rfl rfl rfl rfl rfl ?_
    repeat (first | refine gG ?_ | refine zN1 (fun hlen => ?_) | refine zN2 (fun hlen => ?_) | refine zSub ?_ | refine zAp (fun _ => ?_))
    refine zG ?_
    exact ⟨_, rfl, rfl⟩
  · have d1 : decide ((0 : Int) < ((n : Nat) : Int) - (0 - 0)) = true := decide_eq_true (by omega)
    refine ag_enter 2 tok Tryd.func177 Tryd.ntmps177 Tryd.results177 rfl (by kernel_rfl) rfl fun F => ?_
    repeat (first | refine gG ?_ | refine zSub ?_ | refine zCap0 ?_ | refine zHn ?_)
    refine zAp0 n h0 hn (fun _ ts => ?_)
    repeat (first | refine gG ?_ | refine zSub ?_ | refine zCap0 ?_ | refine zHn ?_)
    refine zQh (n := n) 0 (Nat.zero_le _) (fun _ => ?_)
    repeat (first | refine gG ?_ | refine zN1 (fun hlen => ?_) | refine zN2 (fun hlen => ?_) | refine zSub ?_ | refine zAp (fun _ => ?_))
    refine zG ?_
    exact ⟨_, rfl, rfl⟩
theorem catS_at {L : List (List ByteArray)} {k : Nat} {a : List ByteArray} (h : L[k]? = some a) : (L.map fun x => strRow x)[k * 1]? = some (strRow a) := by simp [h]
set_option maxRecDepth 100000 in
set_option maxHeartbeats 1000000 in
theorem concatS_af (L : List (List ByteArray)) (hL : L.flatten.length ≤ 1048576) (hl : L.length ≤ 1048576) : AF Tryd.prog 161 [.row L.length 1 (L.map fun x => strRow x)] (· = strRow L.flatten) := by
  have hg := growS_ag L.flatten.length hL
  refine af_enter tok Tryd.func161 Tryd.ntmps161 Tryd.results161 rfl (by kernel_rfl) rfl rfl fun F hX => ?_
  repeat (first | refine gG ?_ | refine zN1 (fun hlen => ?_) | refine zN2 (fun hlen => ?_) | refine zAp (fun _ => ?_))
  refine x_loop [3, 5, 11, 12, 13, 14, 15, 16, 17, 18, 19, 20, 21, 22] (fun k : Nat => [(11, .c (.lit (.int .i64 (k : Nat)))), (3, .c (.lit (.int .i64 ((L.take k).flatten.length : Nat))))]) (fun _ => []) (fun k => k ≤ L.length) (fun k => L.length - k) 0 (Nat.zero_le _) ⟨rfl, rfl, trivial⟩ rfl ?_
  intro k hk
  repeat (first | refine gG ?_ | refine zN1 (fun hlen => ?_) | refine zN2 (fun hlen => ?_) | refine zAp (fun _ => ?_))
  refine x_cond rfl (fun h => ?_) (fun h => ?_)
  · have hk' : k < L.length := by simpa using h
    obtain ⟨a, ha⟩ := nth hk'
    have hat := catS_at ha
    have hsn : (L.take (k + 1)).flatten.length = (L.take k).flatten.length + a.length := by rw [List.take_add_one, ha]; simp
    have hle : (L.take (k + 1)).flatten.length ≤ L.flatten.length := by
      have := congrArg (fun r => r.flatten.length) (List.take_append_drop (k + 1) L)
      simp only [List.flatten_append, List.length_append] at this
      omega
    have d0 : decide ((((L.take k).flatten.length + a.length : Nat) : Int) < 0) = false := decide_eq_false (by omega)
    clear h ha
    repeat (first | refine gG ?_ | refine zN1 (fun hlen => ?_) | refine zN2 (fun hlen => ?_) | refine zAp (fun _ => ?_))
    refine zIx k hk' ?_
    repeat (first | refine gG ?_ | refine zN1 (fun hlen => ?_) | refine zN2 (fun hlen => ?_) | refine zAp (fun _ => ?_))
    refine zEl1 hat ?_
    repeat (first | refine gA ?_ | refine zN1 (fun hlen => ?_) | refine zN2 (fun hlen => ?_))
    exact ⟨k + 1, hk', by omega, x_wkd 0 ⟨rfl, by rw [hsn]; rfl, trivial⟩ rfl (by repeat (first | exact ag_refl | refine ag_upd rfl ?_ | refine ag_at rfl rfl ?_))⟩
  have hk' : k = L.length := by
    have : ¬ k < L.length := by simpa using h
    omega
  subst hk'
  clear h hk
  rw [List.take_length]
  repeat (first | refine gG ?_ | refine zN1 (fun hlen => ?_) | refine zN2 (fun hlen => ?_) | refine zAp (fun _ => ?_))
  refine zCallG [] hg ?_
  rintro _ _ ⟨v', rfl, rfl⟩
  refine ⟨.own 0 v', _, re_own, rfl, rfl, ?_⟩
  clear hg
  repeat (first | refine gG ?_ | refine zN1 (fun hlen => ?_) | refine zN2 (fun hlen => ?_) | refine zAp (fun _ => ?_))
  refine x_loop [6, 8, 27, 28, 29, 30, 31, 32, 33, 34] (fun y : Nat × Value => [(27, .c (.lit (.int .i64 (y.1 : Nat)))), (6, .own 0 y.2)]) (fun y => [.row y.2 9 1 (L.take y.1).flatten.length (strAll (L.take y.1).flatten)]) (fun y => y.1 ≤ L.length) (fun y => L.length - y.1) (0, v') (Nat.zero_le _) ⟨rfl, rfl, trivial⟩ rfl ?_
  rintro ⟨k, v⟩ hk
  dsimp only at hk ⊢
  repeat (first | refine gG ?_ | refine zN1 (fun hlen => ?_) | refine zN2 (fun hlen => ?_) | refine zAp (fun _ => ?_))
  refine x_cond rfl (fun h => ?_) (fun h => ?_)
  · have hk' : k < L.length := by simpa using h
    obtain ⟨a, ha⟩ := nth hk'
    have hat := catS_at ha
    have hsn : (L.take (k + 1)).flatten = (L.take k).flatten ++ a := by rw [List.take_add_one, ha]; simp
    have hle : (L.take (k + 1)).flatten.length ≤ L.flatten.length := by
      have := congrArg (fun r => r.flatten.length) (List.take_append_drop (k + 1) L)
      simp only [List.flatten_append, List.length_append] at this
      omega
    have hl1 : (L.take (k + 1)).flatten.length = (L.take k).flatten.length + a.length := by rw [hsn, List.length_append]
    have hc1 : strAll (L.take (k + 1)).flatten = strAll (L.take k).flatten ++ strAll a := by rw [hsn]; exact strAll_app _ _
    clear h ha hsn
    repeat (first | refine gG ?_ | refine zN1 (fun hlen => ?_) | refine zN2 (fun hlen => ?_) | refine zAp (fun _ => ?_))
    refine zIx k hk' ?_
    repeat (first | refine gG ?_ | refine zN1 (fun hlen => ?_) | refine zN2 (fun hlen => ?_) | refine zAp (fun _ => ?_))
    refine zEl1 hat ?_
    repeat (first | refine gG ?_ | refine zN1 (fun hlen => ?_) | refine zN2 (fun hlen => ?_) | refine zAp (fun _ => ?_))
    exact ⟨(k + 1, _), hk', by simp only; omega, x_wkd 1 ⟨rfl, rfl, trivial⟩ (by simp only [hl1, hc1]; rfl) (by repeat (first | exact ag_refl | refine ag_upd rfl ?_ | refine ag_at rfl rfl ?_))⟩
  · have hk' : k = L.length := by
      have : ¬ k < L.length := by simpa using h
      omega
    subst hk'
    clear h
    rw [List.take_length]
    repeat (first | refine gG ?_ | refine zN1 (fun hlen => ?_) | refine zN2 (fun hlen => ?_) | refine zAp (fun _ => ?_))
    first | refine zR ?_ | refine zQ ?_
    rfl
theorem catS2_af (a b : List ByteArray) (h : a.length + b.length ≤ 1048576) : AF Tryd.prog 161 [.row 2 1 [strRow a, strRow b]] (· = strRow (a ++ b)) := by
  have := concatS_af [a, b] (by simpa using h) (by simp)
  simpa using this
set_option maxRecDepth 100000 in
set_option maxHeartbeats 1000000 in
theorem cloneY_af (l : List Y) (hl : l.length ≤ 1048576) : AF Tryd.prog 124 [Y.row l] (· = Y.row l) := by
  refine af_enter tok Tryd.func124 Tryd.ntmps124 Tryd.results124 rfl (by kernel_rfl) rfl rfl fun F hX => ?_
  repeat (first | refine gG ?_ | refine zAp (fun _ => ?_))
  refine zNs (fun b hb => ?_)
  cases b
  · repeat (first | refine gX ?_ | refine zAp (fun _ => ?_))
    refine zBo (fun _ => ?_)
    repeat (first | refine gG ?_ | refine zAp (fun _ => ?_))
    first | refine zR ?_ | refine zQ ?_
    simp only [outT, List.nil_append, Nat.zero_add]
    rfl
  · have h0 := hb rfl
    have : l = [] := List.eq_nil_of_length_eq_zero h0
    subst this
    repeat (first | refine gG ?_ | refine zAp (fun _ => ?_))
    first | refine zR (ts := [Y.row []]) ?_ | refine zQ (ts := [Y.row []]) ?_
    rfl
end Go.Proofs.YtllgibfmddihgaaDoor
namespace Go.Proofs.YtllgibfmddihgaaDoor
open Go.RowKit
def lookD (ds : List Da) (s : ByteArray) : Option Da := ds.find? fun d => decide (d.name = s)
/-- what is wrong with a type's own node -/
def nodeE (ds : List Da) (ps : List ByteArray) (k : Int) (t : ByteArray) (n : Nat) : Int :=
  bif decide (k = 5) then (bif hasS ps t then 0 else 11) else bif decide (k = 6) then (match lookD ds t with | none => 11 | some d => bif decide (((d.params.length : Nat) : Int) = (n : Int)) then 0 else 13) else 0
mutual
def Y.err (ds : List Da) (ps : List ByteArray) : Y → Int
  | .mk k t l => bif decide (nodeE ds ps k t l.length = 0) then Y.errs ds ps l else nodeE ds ps k t l.length
def Y.errs (ds : List Da) (ps : List ByteArray) : List Y → Int
  | [] => 0
  | v :: r => bif decide (v.err ds ps = 0) then Y.errs ds ps r else v.err ds ps
end
theorem errs_app (ds : List Da) (ps : List ByteArray) : ∀ a b : List Y, Y.errs ds ps (a ++ b) = bif decide (Y.errs ds ps a = 0) then Y.errs ds ps b else Y.errs ds ps a
  | [], b => rfl
  | v :: r, b => by
    rw [List.cons_append, Y.errs, Y.errs, errs_app ds ps r b]
    cases d : decide (v.err ds ps = 0)
    · simp only [cond, d]
    · simp only [cond]
theorem errs_one (ds : List Da) (ps : List ByteArray) (v : Y) : Y.errs ds ps [v] = v.err ds ps := by
  rw [Y.errs, Y.errs]
  cases d : decide (v.err ds ps = 0)
  · rfl
  · simpa using (of_decide_eq_true d).symm
theorem errs_drop (ds : List Da) (ps : List ByteArray) {l : List Y} {k : Nat} {a : Y} (h : l[k]? = some a) : Y.errs ds ps (l.drop k) = bif decide (a.err ds ps = 0) then Y.errs ds ps (l.drop (k + 1)) else a.err ds ps := by
  obtain ⟨hk, rfl⟩ := List.getElem?_eq_some_iff.1 h
  rw [List.drop_eq_getElem_cons hk, Y.errs]
/-- the map says of each name the number of its first Data's parameters -/
def CkOk (ds : List Da) (es : List (ByteArray × T)) : Prop := ∀ s, mget s es = (lookD ds s).map fun d => .lit (.int .i64 (d.params.length : Nat))
theorem lookD_snoc {ds : List Da} {k : Nat} {a : Da} (h : ds[k]? = some a) (s : ByteArray) : lookD (ds.take (k + 1)) s = (lookD (ds.take k) s).or (bif decide (a.name = s) then some a else none) := by
  unfold lookD
  rw [List.take_add_one, h, Option.toList_some, List.find?_append, List.find?_cons]
  cases decide (a.name = s) <;> simp
theorem ck_skip {ds : List Da} {es : List (ByteArray × T)} {k : Nat} {a : Da} (h : CkOk (ds.take k) es) (ha : ds[k]? = some a) {t : T} (ht : mget a.name es = some t) : CkOk (ds.take (k + 1)) es := by
  intro s
  rw [lookD_snoc ha, h s]
  by_cases hs : a.name = s
  · subst hs
    rw [h a.name] at ht
    cases hl : lookD (ds.take k) a.name with
    | none => rw [hl] at ht; cases ht
    | some d => rfl
  · rw [decide_eq_false hs]; simp
theorem ck_put {ds : List Da} {es : List (ByteArray × T)} {k : Nat} {a : Da} (h : CkOk (ds.take k) es) (ha : ds[k]? = some a) (ht : mget a.name es = none) : CkOk (ds.take (k + 1)) (mput a.name (.lit (.int .i64 (a.params.length : Nat))) es) := by
  intro s
  rw [lookD_snoc ha, mget_put]
  by_cases hs : a.name = s
  · subst hs
    rw [h a.name] at ht
    have hl : lookD (ds.take k) a.name = none := by simpa using ht
    rw [hl]
    simp
  · rw [decide_eq_false hs, if_neg (Ne.symm hs), h s]; simp
set_option maxRecDepth 100000 in
set_option maxHeartbeats 1000000 in
theorem newChecker_ag (p : Pr) (hp : p.datas.length ≤ 1048576) : AG Tryd.prog 116 [.c p.t] [] (fun r hs => ∃ b es, r = .own 0 (.map (some b)) ∧ hs = [.mp b (mkeys Value.string es)] ∧ CkOk p.datas es) := by
  obtain ⟨nm, vr, us, ds, trs, ims, fus, acs⟩ := p
  dsimp only at hp ⊢
  refine ag_enter 1 tok Tryd.func116 Tryd.ntmps116 Tryd.results116 rfl (by kernel_rfl) rfl fun F => ?_
  repeat (first | refine gG ?_ | refine zN1 (fun hlen => ?_) | refine zN2 (fun hlen => ?_) | refine zAl (fun _ => ?_) | refine zBf ?_)
  refine zMm (fun b => ?_)
  repeat (first | refine gG ?_ | refine zN1 (fun hlen => ?_) | refine zN2 (fun hlen => ?_) | refine zAl (fun _ => ?_) | refine zBf ?_)
  refine x_loop [5, 6, 7, 12, 13, 14, 15, 16, 17, 18, 19, 20, 21, 22, 23, 24, 25, 26, 27, 28, 29, 30, 31] (fun y : Nat × List (ByteArray × T) => [(12, .c (.lit (.int .i64 (y.1 : Nat))))]) (fun y => [.mp b (mkeys Value.string y.2)]) (fun y => y.1 ≤ ds.length ∧ CkOk (ds.take y.1) y.2) (fun y => ds.length - y.1) (0, []) ⟨Nat.zero_le _, fun _ => rfl⟩ ⟨rfl, trivial⟩ rfl ?_
  rintro ⟨k, es⟩ ⟨hk, hck⟩
  dsimp only at hk hck ⊢
  repeat (first | refine gG ?_ | refine zN1 (fun hlen => ?_) | refine zN2 (fun hlen => ?_) | refine zAl (fun _ => ?_) | refine zBx (fun _ => ?_))
  refine x_cond rfl (fun h => ?_) (fun h => ?_)
  · have hk' : k < ds.length := by simpa using h
    obtain ⟨a, ha⟩ := nth hk'
    have hat := Da.at ha
    have h1 := fun t => ck_skip (t := t) hck ha
    have h2 := ck_put hck ha
    clear h hck ha
    obtain ⟨dn, dps, mks⟩ := a
    dsimp only at h1 h2
    repeat (first | refine gG ?_ | refine zN1 (fun hlen => ?_) | refine zN2 (fun hlen => ?_) | refine zAl (fun _ => ?_) | refine zBx (fun _ => ?_))
    refine zIx (k) (hk') ?_
    repeat (first | refine gG ?_ | refine zN1 (fun hlen => ?_) | refine zN2 (fun hlen => ?_) | refine zAl (fun _ => ?_) | refine zBx (fun _ => ?_))
    refine zEl (hat) (Da.ts_len _) ?_
    repeat (first | refine gG ?_ | refine zN1 (fun hlen => ?_) | refine zN2 (fun hlen => ?_) | refine zAl (fun _ => ?_) | refine zBx (fun _ => ?_))
    cases hm : mget dn es with
    | some t =>
      refine zLkso 9 3 (t := t) (c := true) (by rw [hm]; rfl) (by rw [hm]; rfl) ?_
      replace h1 := h1 t hm
      clear h2 hm
      repeat (first | refine gG ?_ | refine zN1 (fun hlen => ?_) | refine zN2 (fun hlen => ?_) | refine zAl (fun _ => ?_) | refine zBx (fun _ => ?_))
      exact ⟨(k + 1, es), ⟨hk', h1⟩, by simp only; omega, x_wkd 1 ⟨rfl, trivial⟩ rfl (by repeat (first | exact ag_refl | refine ag_upd rfl ?_ | refine ag_at rfl rfl ?_))⟩
    | none =>
      refine zLkso 9 3 (t := .lit (.int .i64 0)) (c := false) (by rw [hm]; rfl) (by rw [hm]; rfl) ?_
      replace h2 := h2 hm
      clear h1 hm
      repeat (first | refine gG ?_ | refine zN1 (fun hlen => ?_) | refine zN2 (fun hlen => ?_) | refine zAl (fun _ => ?_) | refine zBx (fun _ => ?_))
      refine zUps 9 3 ?_
      repeat (first | refine gG ?_ | refine zN1 (fun hlen => ?_) | refine zN2 (fun hlen => ?_) | refine zAl (fun _ => ?_) | refine zBx (fun _ => ?_))
      exact ⟨(k + 1, _), ⟨hk', h2⟩, by simp only; omega, x_wkd 1 ⟨rfl, trivial⟩ rfl (by repeat (first | exact ag_refl | refine ag_upd rfl ?_ | refine ag_at rfl rfl ?_))⟩
  · have hk' : k = ds.length := by
      have : ¬ k < ds.length := by simpa using h
      omega
    subst hk'
    clear h
    rw [List.take_length] at hck
    repeat (first | refine gG ?_ | refine zN1 (fun hlen => ?_) | refine zN2 (fun hlen => ?_) | refine zAl (fun _ => ?_) | refine zBx (fun _ => ?_))
    refine zG ?_
    exact ⟨_, _, rfl, rfl, hck⟩
/-- what typ and types answer -/
def CkR (b : Nat) (M : List (Value × T)) (e : Int) (r : AV) (hs : List Blk) : Prop := r = .c (.lit (.int .i64 e)) ∧ hs = [.mp b M]
set_option maxRecDepth 100000 in
set_option maxHeartbeats 1000000 in
theorem typesOf_ag (ds : List Da) (ps : List ByteArray) (b : Nat) (M : List (Value × T)) (l : List Y) (hl : l.length ≤ 1048576) (ht : ∀ v ∈ l, AG Tryd.prog 119 [.own 0 (.map (some b)), .c (strRow ps), .c v.t] [.mp b M] (CkR b M (v.err ds ps))) :
    AG Tryd.prog 117 [.own 0 (.map (some b)), .c (strRow ps), .c (Y.row l)] [.mp b M] (CkR b M (Y.errs ds ps l)) := by
  refine ag_enter 3 tok Tryd.func117 Tryd.ntmps117 Tryd.results117 rfl (by kernel_rfl) rfl fun F => ?_
  repeat (first | refine gG ?_ | refine zN1 (fun hlen => ?_) | refine zN2 (fun hlen => ?_) | refine zAl (fun _ => ?_))
  refine x_loop [6, 8, 9, 12, 13, 14, 15, 16, 17, 18, 19, 20, 21, 22, 23] (fun k : Nat => [(12, .c (.lit (.int .i64 (k : Nat))))]) (fun _ => [.mp b M]) (fun k => k ≤ l.length ∧ Y.errs ds ps (l.drop k) = Y.errs ds ps l) (fun k => l.length - k) 0 ⟨Nat.zero_le _, rfl⟩ ⟨rfl, trivial⟩ rfl ?_
  rintro k ⟨hk, he⟩
  repeat (first | refine gG ?_ | refine zN1 (fun hlen => ?_) | refine zN2 (fun hlen => ?_) | refine zAl (fun _ => ?_))
  refine x_cond rfl (fun h => ?_) (fun h => ?_)
  · have hk' : k < l.length := by simpa using h
    obtain ⟨a, ha⟩ := nth hk'
    have hta := ht a (List.mem_of_getElem? ha)
    have hat := Y.at ha
    rw [errs_drop ds ps ha] at he
    clear h ha
    cases d : decide (a.err ds ps = 0)
    · rw [d, cond_false] at he
      clear ht
      generalize a.err ds ps = ea at *
      obtain ⟨ka, na, la⟩ := a
      repeat (first | refine gG ?_ | refine zN1 (fun hlen => ?_) | refine zN2 (fun hlen => ?_) | refine zAl (fun _ => ?_))
      refine zIx (k) (hk') ?_
      repeat (first | refine gG ?_ | refine zN1 (fun hlen => ?_) | refine zN2 (fun hlen => ?_) | refine zAl (fun _ => ?_))
      refine zEl (hat) (Y.ts_len _) ?_
      repeat (first | refine gG ?_ | refine zN1 (fun hlen => ?_) | refine zN2 (fun hlen => ?_) | refine zAl (fun _ => ?_))
      refine zCallG [0] hta ?_
      rintro _ _ ⟨rfl, rfl⟩
      refine ⟨.c _, _, re_refl, rfl, rfl, ?_⟩
      clear hta
      repeat (first | refine gO ?_ | refine ac_seq ?_ | refine ac_block ?_ | refine ac_region ?_ | refine ac_skip ?_ | refine zT ?_ | refine zF ?_)
      refine x_drop 1 rfl ?_
      repeat (first | refine gG ?_ | refine zN1 (fun hlen => ?_) | refine zN2 (fun hlen => ?_) | refine zAl (fun _ => ?_))
      refine zG ?_
      exact ⟨by rw [he]; rfl, rfl⟩
    · rw [d, cond_true] at he
      generalize a.err ds ps = ea at *
      obtain ⟨ka, na, la⟩ := a
      repeat (first | refine gG ?_ | refine zN1 (fun hlen => ?_) | refine zN2 (fun hlen => ?_) | refine zAl (fun _ => ?_))
      refine zIx (k) (hk') ?_
      repeat (first | refine gG ?_ | refine zN1 (fun hlen => ?_) | refine zN2 (fun hlen => ?_) | refine zAl (fun _ => ?_))
      refine zEl (hat) (Y.ts_len _) ?_
      repeat (first | refine gG ?_ | refine zN1 (fun hlen => ?_) | refine zN2 (fun hlen => ?_) | refine zAl (fun _ => ?_))
      refine zCallG [0] hta ?_
      rintro _ _ ⟨rfl, rfl⟩
      refine ⟨.c _, _, re_refl, rfl, rfl, ?_⟩
      clear hta ht
      have d' := d
      repeat (first | refine gG ?_ | refine zN1 (fun hlen => ?_) | refine zN2 (fun hlen => ?_) | refine zAl (fun _ => ?_))
      exact ⟨k + 1, ⟨hk', he⟩, by omega, x_wkd 1 ⟨rfl, trivial⟩ rfl (by repeat (first | exact ag_refl | refine ag_upd rfl ?_ | refine ag_at rfl rfl ?_))⟩
  · have hk' : k = l.length := by
      have : ¬ k < l.length := by simpa using h
      omega
    subst hk'
    clear h ht
    rw [List.drop_length] at he
    repeat (first | refine gG ?_ | refine zN1 (fun hlen => ?_) | refine zN2 (fun hlen => ?_) | refine zAl (fun _ => ?_))
    refine zG ?_
    exact ⟨by rw [← he]; rfl, rfl⟩
set_option maxRecDepth 100000 in
set_option maxHeartbeats 1000000 in
theorem typ_ag (ds : List Da) (es : List (ByteArray × T)) (hck : CkOk ds es) (ps : List ByteArray) (b : Nat) (v : Y) : v.mass ≤ 1048576 → AG Tryd.prog 119 [.own 0 (.map (some b)), .c (strRow ps), .c v.t] [.mp b (mkeys Value.string es)] (CkR b (mkeys Value.string es) (v.err ds ps)) := by
  induction v using Y.ind with
  | h k t l ih =>
    intro hm
    rw [Y.mass, Y.masses_sum] at hm
    have hll : l.length ≤ 1048576 := by have := len_sum' Y.mass Y.mass_pos l; omega
    have hts := typesOf_ag ds ps b (mkeys Value.string es) l hll (fun v hv => ih v hv (by have := sum_mem' Y.mass hv; omega))
    have hco := contains_af ps t
    have hg := hck t
    have hr : (Y.mk k t l).err ds ps = bif decide (nodeE ds ps k t l.length = 0) then Y.errs ds ps l else nodeE ds ps k t l.length := by rw [Y.err]
    rw [hr]
    unfold nodeE
    clear ih hm hck hr
    generalize Y.errs ds ps l = el at *
    cases d5 : decide (k = 5)
    · cases d6 : decide (k = 6)
      · simp only [cond]
        clear hco hg
        refine ag_enter 3 tok Tryd.func119 Tryd.ntmps119 Tryd.results119 rfl (by kernel_rfl) rfl fun F => ?_
        repeat (first | refine gG ?_ | refine zN1 (fun hlen => ?_) | refine zN2 (fun hlen => ?_) | refine zBf ?_)
        refine zCallG [0] hts ?_
        rintro _ _ ⟨rfl, rfl⟩
        refine ⟨.c _, _, re_refl, rfl, rfl, ?_⟩
        clear hts
        repeat (first | refine gG ?_ | refine zN1 (fun hlen => ?_) | refine zN2 (fun hlen => ?_) | refine zBx (fun _ => ?_))
        refine zG ?_
        exact ⟨rfl, rfl⟩
      · cases hl : lookD ds t with
        | none =>
          rw [hl] at hg
          simp only [cond]
          clear hco hts hl
          refine ag_enter 3 tok Tryd.func119 Tryd.ntmps119 Tryd.results119 rfl (by kernel_rfl) rfl fun F => ?_
          repeat (first | refine gG ?_ | refine zN1 (fun hlen => ?_) | refine zN2 (fun hlen => ?_) | refine zBf ?_)
          refine zLkso 9 3 (t := .lit (.int .i64 0)) (c := false) (by rw [hg]; rfl) (by rw [hg]; rfl) ?_
          clear hg
          repeat (first | refine gG ?_ | refine zN1 (fun hlen => ?_) | refine zN2 (fun hlen => ?_) | refine zBx (fun _ => ?_))
          refine zG ?_
          exact ⟨rfl, rfl⟩
        | some a =>
          rw [hl] at hg
          clear hco hl
          by_cases hd : ((a.params.length : Nat) : Int) = (l.length : Int)
          rotate_left
          · have d : decide (((a.params.length : Nat) : Int) = (l.length : Int)) = false := decide_eq_false hd
            simp only [cond, d]
            clear hts
            refine ag_enter 3 tok Tryd.func119 Tryd.ntmps119 Tryd.results119 rfl (by kernel_rfl) rfl fun F => ?_
            repeat (first | refine gG ?_ | refine zN1 (fun hlen => ?_) | refine zN2 (fun hlen => ?_) | refine zBf ?_)
            refine zLkso 9 3 (t := .lit (.int .i64 (a.params.length : Nat))) (c := true) (by rw [hg]; rfl) (by rw [hg]; rfl) ?_
            clear hg
            repeat (first | refine gG ?_ | refine zN1 (fun hlen => ?_) | refine zN2 (fun hlen => ?_) | refine zBx (fun _ => ?_))
            refine zG ?_
            exact ⟨rfl, rfl⟩
          · have d : decide (((a.params.length : Nat) : Int) = (l.length : Int)) = true := decide_eq_true hd
            simp only [cond, d]
            refine ag_enter 3 tok Tryd.func119 Tryd.ntmps119 Tryd.results119 rfl (by kernel_rfl) rfl fun F => ?_
            repeat (first | refine gG ?_ | refine zN1 (fun hlen => ?_) | refine zN2 (fun hlen => ?_) | refine zBf ?_)
            refine zLkso 9 3 (t := .lit (.int .i64 (a.params.length : Nat))) (c := true) (by rw [hg]; rfl) (by rw [hg]; rfl) ?_
            clear hg
            have d' := d
            repeat (first | refine gG ?_ | refine zN1 (fun hlen => ?_) | refine zN2 (fun hlen => ?_) | refine zBx (fun _ => ?_))
            refine zCallG [0] hts ?_
            rintro _ _ ⟨rfl, rfl⟩
            refine ⟨.c _, _, re_refl, rfl, rfl, ?_⟩
            clear hts
            repeat (first | refine gG ?_ | refine zN1 (fun hlen => ?_) | refine zN2 (fun hlen => ?_) | refine zBx (fun _ => ?_))
            refine zG ?_
            exact ⟨rfl, rfl⟩
    · cases hs : hasS ps t
      · simp only [cond]
        rw [hs] at hco
        clear hts hg
        refine ag_enter 3 tok Tryd.func119 Tryd.ntmps119 Tryd.results119 rfl (by kernel_rfl) rfl fun F => ?_
        repeat (first | refine gG ?_ | refine zN1 (fun hlen => ?_) | refine zN2 (fun hlen => ?_) | refine zBf ?_)
        refine zCall (hco) ?_
        rintro _ rfl
        repeat (first | refine gG ?_ | refine zN1 (fun hlen => ?_) | refine zN2 (fun hlen => ?_) | refine zBx (fun _ => ?_))
        refine zG ?_
        exact ⟨rfl, rfl⟩
      · simp only [cond]
        rw [hs] at hco
        clear hg
        refine ag_enter 3 tok Tryd.func119 Tryd.ntmps119 Tryd.results119 rfl (by kernel_rfl) rfl fun F => ?_
        repeat (first | refine gG ?_ | refine zN1 (fun hlen => ?_) | refine zN2 (fun hlen => ?_) | refine zBf ?_)
        refine zCall (hco) ?_
        rintro _ rfl
        clear hco
        repeat (first | refine gG ?_ | refine zN1 (fun hlen => ?_) | refine zN2 (fun hlen => ?_) | refine zBx (fun _ => ?_))
        refine zCallG [0] hts ?_
        rintro _ _ ⟨rfl, rfl⟩
        refine ⟨.c _, _, re_refl, rfl, rfl, ?_⟩
        clear hts
        repeat (first | refine gG ?_ | refine zN1 (fun hlen => ?_) | refine zN2 (fun hlen => ?_) | refine zBx (fun _ => ?_))
        refine zG ?_
        exact ⟨rfl, rfl⟩
theorem types_ag (ds : List Da) (es : List (ByteArray × T)) (hck : CkOk ds es) (ps : List ByteArray) (b : Nat) (l : List Y) (hm : (l.map Y.mass).sum ≤ 1048576) : AG Tryd.prog 117 [.own 0 (.map (some b)), .c (strRow ps), .c (Y.row l)] [.mp b (mkeys Value.string es)] (CkR b (mkeys Value.string es) (Y.errs ds ps l)) :=
  typesOf_ag ds ps b _ l (by have := len_sum' Y.mass Y.mass_pos l; omega) fun v hv => typ_ag ds es hck ps b v (by have := sum_mem' Y.mass hv; omega)
end Go.Proofs.YtllgibfmddihgaaDoor
namespace Go.Proofs.YtllgibfmddihgaaDoor
open Go.RowKit
theorem lo_eqsr {P : Program} {F : Frm} {d : Option Tmp} {ty : TypeId} {pos : String} {aft : Array Edge} {g : Option (Nat × Bool)} {ρ : Operand → AV} {hp : List Blk} {K : AV → List Blk → Prop} {t t' : TypeId} {x y : Operand} {a b : ByteArray} {r : Bool} (hr : decide (a = b) = r) (h : K (.c (.lit (.bool r))) hp) (hx : ρ x = .c (.lit (.string a)) := by exact rfl) (hy : ρ y = .c (.lit (.string b)) := by exact rfl) : LO P F ⟨d, .binOp .eql t x y t', ty, pos, aft, g⟩ ρ hp K :=
  lo_eqs hx hy (hr ▸ h)
end Go.Proofs.YtllgibfmddihgaaDoor
namespace Go.Proofs.YtllgibfmddihgaaDoor
open Go.RowKit
theorem Ex.walk_mass (e : Ex) : ∀ x ∈ e.walk, x.mass ≤ e.mass := by
  induction e using Ex.ind with
  | h k n t ns ys l rs p ih ihr =>
    intro x hx
    rw [Ex.walk, Ex.walks_eq, Ar.walks_eq] at hx
    rcases List.mem_cons.1 hx with rfl | hx
    · exact Nat.le_refl _
    · have hm : (Ex.mk k n t ns ys l rs p).mass = far k + far n + (t.size + 1) + (strSize ns + 1) + (Y.masses ys + 1) + ((l.map Ex.mass).sum + 1) + ((rs.map Ar.mass).sum + 1) + far p := by rw [Ex.mass, Ex.masses_sum, Ar.masses_sum]
      rcases List.mem_append.1 hx with hx | hx
      · obtain ⟨y, hy, hxy⟩ := List.mem_flatMap.1 hx
        have h1 := ih y hy x hxy
        have h2 := sum_mem' Ex.mass hy
        omega
      · obtain ⟨y, hy, hxy⟩ := List.mem_flatMap.1 hx
        obtain ⟨r, hr, rfl⟩ := List.mem_map.1 hy
        obtain ⟨q, b⟩ := r
        have h1 := ihr _ hr q b rfl x hxy
        have h2 := sum_mem' Ar.mass hr
        rw [Ar.mass] at h2
        omega
end Go.Proofs.YtllgibfmddihgaaDoor
namespace Go.Proofs.YtllgibfmddihgaaDoor
open Go.RowKit
def Ex.tys : Ex → List Y
  | .mk _ _ _ _ ys _ _ _ => ys
def Ex.knd : Ex → Int
  | .mk k _ _ _ _ _ _ _ => k
/-- the first error among expressions, and where -/
def bodyP (ds : List Da) (ps : List ByteArray) : List Ex → Int × Int
  | [] => (0, 0)
  | x :: r => bif decide (Y.errs ds ps x.tys = 0) then bodyP ds ps r else (Y.errs ds ps x.tys, x.pos)
theorem bodyP_drop (ds : List Da) (ps : List ByteArray) {l : List Ex} {k : Nat} {a : Ex} (h : l[k]? = some a) : bodyP ds ps (l.drop k) = bif decide (Y.errs ds ps a.tys = 0) then bodyP ds ps (l.drop (k + 1)) else (Y.errs ds ps a.tys, a.pos) := by
  obtain ⟨hk, rfl⟩ := List.getElem?_eq_some_iff.1 h
  rw [List.drop_eq_getElem_cons hk, bodyP]
theorem Ex.tys_mass (x : Ex) : (x.tys.map Y.mass).sum ≤ x.mass := by
  obtain ⟨k, n, t, ns, ys, l, rs, p⟩ := x
  rw [Ex.mass, Y.masses_sum, Ex.tys]
  omega
def CkR2 (b : Nat) (M : List (Value × T)) (e : Int × Int) (r : AV) (hs : List Blk) : Prop := r = .tup [.c (.lit (.int .i64 e.1)), .c (.lit (.int .i64 e.2))] ∧ hs = [.mp b M]
def CkR3 (b : Nat) (M : List (Value × T)) (e : Int × Int) (r : AV) (hs : List Blk) : Prop := r = .tup [.c (.lit (.int .i64 e.1)), .c (.lit (.int .i64 e.2))] ∧ ∃ x, hs = [.mp b M, x]
set_option maxRecDepth 100000 in
set_option maxHeartbeats 2000000 in
theorem body_ag (ds : List Da) (es : List (ByteArray × T)) (hck : CkOk ds es) (ps : List ByteArray) (b : Nat) (e : Ex) (he : e.mass ≤ 1048576) : AG Tryd.prog 120 [.own 0 (.map (some b)), .c (strRow ps), .c e.t] [.mp b (mkeys Value.string es)] (CkR2 b (mkeys Value.string es) (bodyP ds ps e.walk)) := by
  have hwl : e.walk.length ≤ 1048576 := Nat.le_trans e.walk_count (Nat.le_trans e.count_le he)
  have hw := walk_af e hwl
  have ht : ∀ x ∈ e.walk, AG Tryd.prog 117 [.own 0 (.map (some b)), .c (strRow ps), .c (Y.row x.tys)] [.mp b (mkeys Value.string es)] (CkR b (mkeys Value.string es) (Y.errs ds ps x.tys)) := fun x hx =>
    types_ag ds es hck ps b x.tys (Nat.le_trans x.tys_mass (Nat.le_trans (e.walk_mass x hx) he))
  clear he hck
  generalize mkeys Value.string es = M at *
  generalize e.walk = W at *
  obtain ⟨k0, n0, t0, ns0, ys0, l0, rs0, p0⟩ := e
  refine ag_enter 3 tok Tryd.func120 Tryd.ntmps120 Tryd.results120 rfl (by kernel_rfl) rfl fun F => ?_
  repeat (first | refine gG ?_ | refine zN1 (fun hlen => ?_) | refine zN2 (fun hlen => ?_) | refine zAl (fun _ => ?_) | refine zBf ?_)
  refine zCall (hw) ?_
  rintro _ rfl
  clear hw
  repeat (first | refine gG ?_ | refine zN1 (fun hlen => ?_) | refine zN2 (fun hlen => ?_) | refine zAl (fun _ => ?_) | refine zBf ?_)
  refine x_loop [6, 7, 9, 10, 14, 15, 16, 17, 18, 19, 20, 21, 22, 23, 24, 25, 26, 27, 28] (fun k : Nat => [(14, .c (.lit (.int .i64 (k : Nat))))]) (fun _ => [.mp b M]) (fun k => k ≤ W.length ∧ bodyP ds ps (W.drop k) = bodyP ds ps W) (fun k => W.length - k) 0 ⟨Nat.zero_le _, rfl⟩ ⟨rfl, trivial⟩ rfl ?_
  rintro k ⟨hk, hb⟩
  repeat (first | refine gG ?_ | refine zN1 (fun hlen => ?_) | refine zN2 (fun hlen => ?_) | refine zAl (fun _ => ?_) | refine zBx (fun _ => ?_))
  refine x_cond rfl (fun h => ?_) (fun h => ?_)
  · have hk' : k < W.length := by simpa using h
    obtain ⟨a, ha⟩ := nth hk'
    have hta := ht a (List.mem_of_getElem? ha)
    have hat := Ex.at ha
    rw [bodyP_drop ds ps ha] at hb
    clear h ha
    cases d : decide (Y.errs ds ps a.tys = 0)
    · rw [d, cond_false] at hb
      clear ht
      generalize Y.errs ds ps a.tys = ea at *
      obtain ⟨ka, na, ta, nsa, ysa, la, rsa, qa⟩ := a
      repeat (first | refine gG ?_ | refine zN1 (fun hlen => ?_) | refine zN2 (fun hlen => ?_) | refine zAl (fun _ => ?_) | refine zBx (fun _ => ?_))
      refine zIx (k) (hk') ?_
      repeat (first | refine gG ?_ | refine zN1 (fun hlen => ?_) | refine zN2 (fun hlen => ?_) | refine zAl (fun _ => ?_) | refine zBx (fun _ => ?_))
      refine zEl (hat) (Ex.ts_len _) ?_
      repeat (first | refine gG ?_ | refine zN1 (fun hlen => ?_) | refine zN2 (fun hlen => ?_) | refine zAl (fun _ => ?_) | refine zBx (fun _ => ?_))
      refine zCallG [0] hta ?_
      rintro _ _ ⟨rfl, rfl⟩
      refine ⟨.c _, _, re_refl, rfl, rfl, ?_⟩
      clear hta
      repeat (first | refine gG ?_ | refine zN1 (fun hlen => ?_) | refine zN2 (fun hlen => ?_) | refine zAl (fun _ => ?_) | refine zBx (fun _ => ?_))
      refine ac_draw [1, 1, 1, 1, 1] [0, 1, 2, 3, 4] (by kernel_rfl) (by kernel_rfl) ?_
      refine gW ?_
      refine w_nil ?_
      repeat (first | refine gO ?_ | refine ac_seq ?_ | refine ac_block ?_ | refine ac_region ?_ | refine ac_skip ?_ | refine zT ?_ | refine zF ?_)
      refine x_drop 1 rfl ?_
      repeat (first | refine gG ?_ | refine zN1 (fun hlen => ?_) | refine zN2 (fun hlen => ?_) | refine zAl (fun _ => ?_) | refine zBx (fun _ => ?_))
      refine zG ?_
      exact ⟨by rw [← hb]; rfl, rfl⟩
    · rw [d, cond_true] at hb
      generalize Y.errs ds ps a.tys = ea at *
      obtain ⟨ka, na, ta, nsa, ysa, la, rsa, qa⟩ := a
      repeat (first | refine gG ?_ | refine zN1 (fun hlen => ?_) | refine zN2 (fun hlen => ?_) | refine zAl (fun _ => ?_) | refine zBx (fun _ => ?_))
      refine zIx (k) (hk') ?_
      repeat (first | refine gG ?_ | refine zN1 (fun hlen => ?_) | refine zN2 (fun hlen => ?_) | refine zAl (fun _ => ?_) | refine zBx (fun _ => ?_))
      refine zEl (hat) (Ex.ts_len _) ?_
      repeat (first | refine gG ?_ | refine zN1 (fun hlen => ?_) | refine zN2 (fun hlen => ?_) | refine zAl (fun _ => ?_) | refine zBx (fun _ => ?_))
      refine zCallG [0] hta ?_
      rintro _ _ ⟨rfl, rfl⟩
      refine ⟨.c _, _, re_refl, rfl, rfl, ?_⟩
      clear hta ht
      have d' := d
      repeat (first | refine gG ?_ | refine zN1 (fun hlen => ?_) | refine zN2 (fun hlen => ?_) | refine zAl (fun _ => ?_) | refine zBx (fun _ => ?_))
      exact ⟨k + 1, ⟨hk', hb⟩, by omega, x_wkd 1 ⟨rfl, trivial⟩ rfl (by repeat (first | exact ag_refl | refine ag_upd rfl ?_ | refine ag_at rfl rfl ?_))⟩
  · have hk' : k = W.length := by
      have : ¬ k < W.length := by simpa using h
      omega
    subst hk'
    clear h ht
    rw [List.drop_length] at hb
    repeat (first | refine gG ?_ | refine zN1 (fun hlen => ?_) | refine zN2 (fun hlen => ?_) | refine zAl (fun _ => ?_) | refine zBx (fun _ => ?_))
    refine zG ?_
    exact ⟨by rw [← hb]; rfl, rfl⟩
/-- what is wrong with a function -/
def funP (ds : List Da) (ps : List ByteArray) (f : Fu) : Int × Int :=
  bif decide (Y.errs ds ps f.types = 0) then bif decide (f.out.err ds ps = 0) then bif decide (f.body.knd = 0) then (0, 0) else bodyP ds ps f.body.walk else (f.out.err ds ps, 0) else (Y.errs ds ps f.types, 0)
set_option maxRecDepth 100000 in
set_option maxHeartbeats 2000000 in
theorem funcNil_ag (ds : List Da) (es : List (ByteArray × T)) (hck : CkOk ds es) (b : Nat) (f : Fu) (hf : f.mass ≤ 1048576) : AG Tryd.prog 118 [.own 0 (.map (some b)), .c (.lit (.slice none 0 0)), .c f.t] [.mp b (mkeys Value.string es)] (CkR2 b (mkeys Value.string es) (funP ds f.params f)) := by
  have hfm : f.mass = (f.name.size + 1) + (strSize f.params + 1) + (strSize f.names + 1) + ((f.types.map Y.mass).sum + 1) + f.out.mass + f.body.mass := by unfold Fu.mass; rfl
  have hpl : f.params.length ≤ 1048576 := by have := strSize_len f.params; omega
  have h1 := types_ag ds es hck f.params b f.types (by omega)
  have h2 := typ_ag ds es hck f.params b f.out (by omega)
  have h3 := body_ag ds es hck f.params b f.body (by omega)
  clear hck hfm hf
  unfold funP
  generalize mkeys Value.string es = M at *
  generalize hkn : decide (f.body.knd = 0) = dk
  obtain ⟨nm, pas, nas, tys, ou, bo⟩ := f
  dsimp only at *
  generalize Y.errs ds _ tys = e1 at *
  generalize Y.err ds _ ou = e2 at *
  generalize bodyP ds _ bo.walk = e3 at *
  obtain ⟨e3, e4⟩ := e3
  obtain ⟨ok, on, oa⟩ := ou
  obtain ⟨kb, nb, tb, nsb, ysb, lb, rsb, pb⟩ := bo
  have d3 : decide (kb = 0) = dk := hkn
  clear hkn
  refine ag_enter 3 tok Tryd.func118 Tryd.ntmps118 Tryd.results118 rfl (by kernel_rfl) rfl fun F => ?_
  refine x_own 1 9 1 rfl rfl rfl rfl rfl ?_
  repeat (first | refine ac_seq ?_ | refine ac_block ?_ | refine ac_region ?_)
  repeat (first | refine gO ?_ | refine zBf ?_ | refine zAp (fun _ => ?_))
  repeat (first | refine ac_seq ?_ | refine ac_block ?_ | refine ac_region ?_)
  repeat (first | refine gO ?_ | refine zBf ?_ | refine zAp (fun _ => ?_))
  refine x_fz 8 rfl rfl rfl rfl ?_
  refine x_drop 1 rfl ?_
  simp only [Nat.zero_add, List.nil_append]
  repeat (first | refine gG ?_ | refine zBx (fun _ => ?_) | refine zAp (fun _ => ?_))
  refine zCallG [0] h1 ?_
  rintro _ _ ⟨rfl, rfl⟩
  refine ⟨.c _, _, re_refl, rfl, rfl, ?_⟩
  clear h1
  cases d1 : decide (e1 = 0)
  · simp only [cond]
    clear h2 h3
    repeat (first | refine gG ?_ | refine zBx (fun _ => ?_) | refine zAp (fun _ => ?_))
    refine zG ?_
    exact ⟨rfl, rfl⟩
  have z1 : e1 = 0 := of_decide_eq_true d1
  simp only [cond]
  repeat (first | refine gG ?_ | refine zBx (fun _ => ?_) | refine zAp (fun _ => ?_))
  refine zCallG [0] h2 ?_
  rintro _ _ ⟨rfl, rfl⟩
  refine ⟨.c _, _, re_refl, rfl, rfl, ?_⟩
  clear h2
  cases d2 : decide (e2 = 0)
  · simp only [cond]
    clear h3
    repeat (first | refine gG ?_ | refine zBx (fun _ => ?_) | refine zAp (fun _ => ?_))
    refine zG ?_
    exact ⟨rfl, rfl⟩
  simp only [cond]
  cases dk
  · simp only [cond]
    repeat (first | refine gG ?_ | refine zBx (fun _ => ?_) | refine zAp (fun _ => ?_))
    refine zCallG [0] h3 ?_
    rintro _ _ ⟨rfl, rfl⟩
    refine ⟨.tup [.c _, .c _], _, re_refl, rfl, rfl, ?_⟩
    clear h3
    repeat (first | refine gG ?_ | refine zBx (fun _ => ?_) | refine zAp (fun _ => ?_))
    refine zG ?_
    exact ⟨rfl, rfl⟩
  · simp only [cond]
    clear h3
    repeat (first | refine gG ?_ | refine zBx (fun _ => ?_) | refine zAp (fun _ => ?_))
    refine zG ?_
    exact ⟨rfl, rfl⟩
set_option maxRecDepth 100000 in
set_option maxHeartbeats 2000000 in
theorem funcOwn_ag (ds : List Da) (es : List (ByteArray × T)) (hck : CkOk ds es) (b : Nat) (v : Value) (more : List ByteArray) (hmo : more.length ≤ 1048576) (f : Fu) (hf : f.mass ≤ 1048576) : AG Tryd.prog 118 [.own 0 (.map (some b)), .own 1 v, .c f.t] [.mp b (mkeys Value.string es), .row v 9 1 more.length (more.flatMap strTs)] (CkR3 b (mkeys Value.string es) (funP ds (more ++ f.params) f)) := by
  have hfm : f.mass = (f.name.size + 1) + (strSize f.params + 1) + (strSize f.names + 1) + ((f.types.map Y.mass).sum + 1) + f.out.mass + f.body.mass := by unfold Fu.mass; rfl
  have hpl : f.params.length ≤ 1048576 := by have := strSize_len f.params; omega
  have h1 := types_ag ds es hck (more ++ f.params) b f.types (by omega)
  have h2 := typ_ag ds es hck (more ++ f.params) b f.out (by omega)
  have h3 := body_ag ds es hck (more ++ f.params) b f.body (by omega)
  clear hck hfm hf
  unfold funP
  generalize mkeys Value.string es = M at *
  have hml : (more ++ f.params).length = more.length + f.params.length := List.length_append
  have hmf : (more ++ f.params).flatMap strTs = more.flatMap strTs ++ f.params.flatMap strTs := List.flatMap_append
  generalize hkn : decide (f.body.knd = 0) = dk
  obtain ⟨nm, pas, nas, tys, ou, bo⟩ := f
  dsimp only at *
  generalize Y.errs ds _ tys = e1 at *
  generalize Y.err ds _ ou = e2 at *
  generalize bodyP ds _ bo.walk = e3 at *
  obtain ⟨e3, e4⟩ := e3
  obtain ⟨ok, on, oa⟩ := ou
  obtain ⟨kb, nb, tb, nsb, ysb, lb, rsb, pb⟩ := bo
  have d3 : decide (kb = 0) = dk := hkn
  clear hkn
  have hrw : strRow (more ++ pas) = .row (more.length + pas.length) 1 (more.flatMap strTs ++ pas.flatMap strTs) := by rw [strRow, hml, hmf]
  rw [hrw] at h1 h2 h3
  clear hml hmf hrw
  refine ag_enter 3 tok Tryd.func118 Tryd.ntmps118 Tryd.results118 rfl (by kernel_rfl) rfl fun F => ?_
  repeat (first | refine ac_seq ?_ | refine ac_block ?_ | refine ac_region ?_)
  repeat (first | refine gO ?_ | refine zBf ?_ | refine zAp (fun _ => ?_))
  repeat (first | refine ac_seq ?_ | refine ac_block ?_ | refine ac_region ?_)
  repeat (first | refine gO ?_ | refine zBf ?_ | refine zAp (fun _ => ?_))
  refine x_fz 8 rfl rfl rfl rfl ?_
  repeat (first | refine gG ?_ | refine zBx (fun _ => ?_) | refine zAp (fun _ => ?_))
  refine zCallG [0] h1 ?_
  rintro _ _ ⟨rfl, rfl⟩
  refine ⟨.c _, _, re_refl, rfl, rfl, ?_⟩
  clear h1
  cases d1 : decide (e1 = 0)
  · simp only [cond]
    clear h2 h3
    repeat (first | refine gG ?_ | refine zBx (fun _ => ?_) | refine zAp (fun _ => ?_))
    refine zG ?_
    exact ⟨rfl, _, rfl⟩
  have z1 : e1 = 0 := of_decide_eq_true d1
  simp only [cond]
  repeat (first | refine gG ?_ | refine zBx (fun _ => ?_) | refine zAp (fun _ => ?_))
  refine zCallG [0] h2 ?_
  rintro _ _ ⟨rfl, rfl⟩
  refine ⟨.c _, _, re_refl, rfl, rfl, ?_⟩
  clear h2
  cases d2 : decide (e2 = 0)
  · simp only [cond]
    clear h3
    repeat (first | refine gG ?_ | refine zBx (fun _ => ?_) | refine zAp (fun _ => ?_))
    refine zG ?_
    exact ⟨rfl, _, rfl⟩
  simp only [cond]
  cases dk
  · simp only [cond]
    repeat (first | refine gG ?_ | refine zBx (fun _ => ?_) | refine zAp (fun _ => ?_))
    refine zCallG [0] h3 ?_
    rintro _ _ ⟨rfl, rfl⟩
    refine ⟨.tup [.c _, .c _], _, re_refl, rfl, rfl, ?_⟩
    clear h3
    repeat (first | refine gG ?_ | refine zBx (fun _ => ?_) | refine zAp (fun _ => ?_))
    refine zG ?_
    exact ⟨rfl, _, rfl⟩
  · simp only [cond]
    clear h3
    repeat (first | refine gG ?_ | refine zBx (fun _ => ?_) | refine zAp (fun _ => ?_))
    refine zG ?_
    exact ⟨rfl, _, rfl⟩
set_option maxRecDepth 100000 in
set_option maxHeartbeats 2000000 in
theorem kindType_af (p : Pr) (hp : p.datas.length ≤ 1048576) (ps : List ByteArray) (v : Y) (hv : v.mass ≤ 1048576) : AF Tryd.prog 30 [p.t, strRow ps, v.t] (· = .lit (.int .i64 (v.err p.datas ps))) := by
  have hn := newChecker_ag p hp
  have ht := fun es (hck : CkOk p.datas es) b => typ_ag p.datas es hck ps b v hv
  generalize v.err p.datas ps = er at *
  generalize p.datas = ds at *
  obtain ⟨nm, vr, us, ds', trs, ims, fus, acs⟩ := p
  obtain ⟨k, t, l⟩ := v
  refine af_enter tok Tryd.func30 Tryd.ntmps30 Tryd.results30 rfl (by kernel_rfl) rfl rfl fun F hX => ?_
  repeat (first | refine gG ?_ | refine zBf ?_)
  refine ac_draw [0, 2, 0, 0, 2, 1] [0, 2, 3, 1, 4, 5] (by kernel_rfl) (by kernel_rfl) ?_
  refine gW ?_
  apply w_l; (focus exact rfl); (focus exact rfl); (refine zCallG [] hn ?_; rintro _ _ ⟨b, es, rfl, rfl, hck⟩; refine ⟨.own 0 (.map (some b)), _, re_own, rfl, rfl, ?_⟩)
  apply w_l; (focus exact rfl); (focus exact rfl); (refine zCallG [0] (ht es hck b) ?_; rintro _ _ ⟨rfl, rfl⟩; refine ⟨.c _, _, re_refl, rfl, rfl, ?_⟩)
  refine gW ?_
  refine w_nil ?_
  repeat (first | refine gG ?_ | refine zBf ?_)
  first | refine zR ?_ | refine zQ ?_
  rfl
theorem kindTypes_af (p : Pr) (hp : p.datas.length ≤ 1048576) (ps : List ByteArray) (l : List Y) (hl : (l.map Y.mass).sum ≤ 1048576) : AF Tryd.prog 32 [p.t, strRow ps, Y.row l] (· = .lit (.int .i64 (Y.errs p.datas ps l))) := by
  have hn := newChecker_ag p hp
  have ht := fun es (hck : CkOk p.datas es) b => types_ag p.datas es hck ps b l hl
  generalize Y.errs p.datas ps l = er at *
  generalize p.datas = ds at *
  obtain ⟨nm, vr, us, ds', trs, ims, fus, acs⟩ := p
  refine af_enter tok Tryd.func32 Tryd.ntmps32 Tryd.results32 rfl (by kernel_rfl) rfl rfl fun F hX => ?_
  repeat (first | refine gG ?_ | refine zBf ?_)
  refine zCallG [] hn ?_
  rintro _ _ ⟨b, es, rfl, rfl, hck⟩
  refine ⟨.own 0 (.map (some b)), _, re_own, rfl, rfl, ?_⟩
  repeat (first | refine gG ?_ | refine zBf ?_)
  refine zCallG [0] (ht es hck b) ?_
  rintro _ _ ⟨rfl, rfl⟩
  refine ⟨.c _, _, re_refl, rfl, rfl, ?_⟩
  repeat (first | refine gG ?_ | refine zBf ?_)
  first | refine zR ?_ | refine zQ ?_
  rfl
end Go.Proofs.YtllgibfmddihgaaDoor
