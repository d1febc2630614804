/-
  Abstract states: addresses, lengths, append, literals, calls.
-/
import Derived.Test.YthgackidonocpaaAb5
namespace Go.Proofs.Ythgackidonocpaa
open Go.RowKit

def allOneT : List T → Bool
  | [] => true
  | a :: l => cond (oneA (.c a)) (allOneT l) false

section
variable {P : Program} {F : Frm} {L : Tab} {d : Option Tmp} {ty : TypeId} {pos : String} {aft : Array Edge} {g : Option (Nat × Bool)} {ρ : Operand → AV} {hp : List Blk} {K : AV → List Blk → Prop}

theorem run_fieldAt (hL : TabOk P L) {s : TypeId} {ti : TI} {fs : List (Nat × Nat)} {k o sz : Nat} (ht : L.look s = some ti) (hd : ti.d = .struct fs) (hk : fs[k]? = some (o, sz)) (h0 : Nat.beq sz 0 = false) (ad : Addr) (w : World) :
    (Instr.fieldAt s (.pointer (some ad)) k).run P w = .ok (.pointer (some (ad.add o))) w := by
  obtain ⟨fields, f, h1, h2, h3, h4⟩ := hL.field ht hd hk
  cases hi : P.info? f.type with
  | none => rw [hi] at h4; simp at h4
  | some inf =>
    rw [hi] at h4
    have h5 : inf.size = sz := by simpa using h4
    have h6 : ¬ sz = 0 := fun e => by rw [e] at h0; cases h0
    simp [Instr.fieldAt, run_underlying h1, h2, Instr.sureAddr, fieldPlace, Go.sizeOf, typeInfo, hi, h5, h6, h3]
theorem lo_fld (hL : TabOk P L) {s : TypeId} {ti : TI} {fs : List (Nat × Nat)} {k o sz : Nat} {x : Operand} {i b off : Nat} (hx : ρ x = .ptr i b off) (ht : L.look s = some ti) (hd : ti.d = .struct fs) (hk : fs[k]? = some (o, sz)) (h0 : Nat.beq sz 0 = false) (h : K (.ptr i b (off + o)) hp) : LO P F ⟨d, .fieldAddr s x k, ty, pos, aft, g⟩ ρ hp K := by
  refine LO.same (fun M e w he hh => ?_) h
  have h1 := he x (by first | (simp [Op.operands]; done) | simp [Op.operands, Call.operands])
  rw [hx] at h1
  simp only [RA] at h1
  exact ⟨_, by simp [execOp, h1, run_fieldAt hL ht hd hk h0]; rfl, by simp only [RA, box_add]⟩
theorem lo_fld_pin (hL : TabOk P L) {s : TypeId} {ti : TI} {fs : List (Nat × Nat)} {k o sz : Nat} {x : Operand} {cs : List T} {off : Nat} (hx : ρ x = .c (.pin cs off)) (ht : L.look s = some ti) (hd : ti.d = .struct fs) (hk : fs[k]? = some (o, sz)) (h0 : Nat.beq sz 0 = false) (h : K (.c (.pin cs (off + o))) hp) : LO P F ⟨d, .fieldAddr s x k, ty, pos, aft, g⟩ ρ hp K := by
  refine LO.same (fun M e w he hh => ?_) h
  have h1 := he x (by first | (simp [Op.operands]; done) | simp [Op.operands, Call.operands])
  rw [hx] at h1
  simp only [RA, RT] at h1
  obtain ⟨ad, xs, hu, hat, hxs⟩ := h1
  refine ⟨_, by simp [execOp, hu, run_fieldAt hL ht hd hk h0]; rfl, ?_⟩
  simp only [RA, RT]
  exact ⟨ad, xs, by rw [add_add'], hat, hxs⟩
theorem lo_fld_e (hL : TabOk P L) {s : TypeId} {ti : TI} {fs : List (Nat × Nat)} {k o sz : Nat} {x : Operand} {i : Nat} {v : Value} {off : Nat} (hx : ρ x = .eptr i v off) (ht : L.look s = some ti) (hd : ti.d = .struct fs) (hk : fs[k]? = some (o, sz)) (h0 : Nat.beq sz 0 = false) (h : K (.eptr i v (off + o)) hp) : LO P F ⟨d, .fieldAddr s x k, ty, pos, aft, g⟩ ρ hp K := by
  refine LO.same (fun M e w he hh => ?_) h
  have h1 := he x (by first | (simp [Op.operands]; done) | simp [Op.operands, Call.operands])
  rw [hx] at h1
  simp only [RA] at h1
  obtain ⟨ad, n, c, hv, hu⟩ := h1
  refine ⟨_, by simp [execOp, hu, run_fieldAt hL ht hd hk h0]; rfl, ?_⟩
  simp only [RA]
  exact ⟨ad, n, c, hv, by rw [add_add']⟩
theorem lo_idx (hL : TabOk P L) {t el : TypeId} {ti te : TI} {x y : Operand} {n sz : Nat} {cs : List T} {k : IntKind} {z : Int} (j : Nat) (hx : ρ x = .c (.row n sz cs)) (hy : ρ y = .c (.lit (.int k z))) (hz : z = (j : Int)) (hj : j < n) (ht : L.look t = some ti) (hd : ti.d = .slice el) (hte : L.look el = some te) (hsz : te.size = sz) (h : K (.c (.pin cs (j * sz))) hp) : LO P F ⟨d, .indexAddr t x y, ty, pos, aft, g⟩ ρ hp K := by
  refine LO.same (fun M e w he hh => ?_) h
  have h1 := he x (by first | (simp [Op.operands]; done) | simp [Op.operands, Call.operands])
  rw [hx] at h1
  simp only [RA, RT] at h1
  obtain ⟨A, c, xs, hu, hn, _, _, _, hA, hxs⟩ := h1
  obtain ⟨ad, rfl, hat⟩ := hA (by omega)
  have h2 := he y (by first | (simp [Op.operands]; done) | simp [Op.operands, Call.operands])
  rw [hy] at h2
  simp only [RA, RT] at h2
  refine ⟨.pointer (some (ad.add (j * sz))), ?_, by simp only [RA, RT]; exact ⟨ad, xs, rfl, hat, hxs⟩⟩
  subst hz
  simp [execOp, Instr.indexAt, hu, h2, asIntOf, run_underlying (hL.slice ht hd), hL.sizeOf hte, hsz, hj]
theorem lo_idx_own (hL : TabOk P L) {t el : TypeId} {ti te : TI} {x y : Operand} {i n sz : Nat} {v : Value} {e' : TypeId} {cs : List T} {k : IntKind} {z : Int} (j : Nat) (hx : ρ x = .own i v) (hi : hp[i]? = some (.row v e' sz n cs)) (hy : ρ y = .c (.lit (.int k z))) (hz : z = (j : Int)) (hj : j < n) (ht : L.look t = some ti) (hd : ti.d = .slice el) (hte : L.look el = some te) (hsz : te.size = sz) (h : K (.eptr i v (j * sz)) hp) : LO P F ⟨d, .indexAddr t x y, ty, pos, aft, g⟩ ρ hp K := by
  refine LO.same (fun M e w he hh => ?_) h
  have h1 := he x (by first | (simp [Op.operands]; done) | simp [Op.operands, Call.operands])
  rw [hx] at h1
  simp only [RA] at h1
  obtain ⟨xs, ho, _⟩ := hh.at_ i _ hi
  obtain ⟨A, c, rfl, _⟩ := own_shape ho
  rcases ho.2 with ⟨_, h0⟩ | ⟨g', cap, cur, hv, _⟩
  · omega
  · have hA : A = some ⟨g', 0, none⟩ := by injection hv
    subst hA
    have h2 := he y (by first | (simp [Op.operands]; done) | simp [Op.operands, Call.operands])
    rw [hy] at h2
    simp only [RA, RT] at h2
    refine ⟨.pointer (some (Addr.add ⟨g', 0, none⟩ (j * sz))), ?_, by simp only [RA]; exact ⟨_, _, _, rfl, rfl⟩⟩
    subst hz
    simp [execOp, Instr.indexAt, h1.1, h2, asIntOf, run_underlying (hL.slice ht hd), hL.sizeOf hte, hsz, hj]
theorem own_load {M : Mm} {w : World} (hh : HeapOk F M hp w) {i n sz : Nat} {ad : Addr} {m c : Nat} {e' : TypeId} {cs : List T} (hi : hp[i]? = some (.row (.slice (some ad) m c) e' sz n cs)) :
    ∃ xs, RTs M cs xs ∧ ∀ j x, xs[j]? = some x → w.cell? (ad.add j) = some x := by
  obtain ⟨xs, ho, hx, _⟩ := hh.at_ i _ hi
  refine ⟨xs, hx, ?_⟩
  rcases ho.2 with ⟨h0, _⟩ | ⟨g', cap, cur, hv, _⟩
  · cases h0
  · have hA : ad = ⟨g', 0, none⟩ := by injection hv with h; injection h
    subst hA
    exact ho.cells (g := g') rfl
theorem lo_load_e1 (hL : TabOk P L) {t : TypeId} {ti : TI} {x : Operand} {i off n sz : Nat} {v : Value} {e' : TypeId} {cs : List T} {u : T} (hx : ρ x = .eptr i v off) (hi : hp[i]? = some (.row v e' sz n cs)) (ht : L.look t = some ti) (ha : ti.agg = false) (hv : cs[off]? = some u) (h : K (.c u) hp) : LO P F ⟨d, .load t x, ty, pos, aft, g⟩ ρ hp K := by
  refine LO.same (fun M e w he hh => ?_) h
  have h1 := he x (by first | (simp [Op.operands]; done) | simp [Op.operands, Call.operands])
  rw [hx] at h1
  simp only [RA] at h1
  obtain ⟨ad, n', c, rfl, hu⟩ := h1
  obtain ⟨xs, hxs, hat⟩ := own_load hh hi
  obtain ⟨u', hu1, hu2⟩ := hxs.get hv
  refine ⟨u', ?_, by simp only [RA]; exact hu2⟩
  simp [execOp, Instr.loadAt, hu, Instr.sureAddr, loadVar, hL.isAgg ht, ha, hat off u' hu1]
theorem lo_load_e (hL : TabOk P L) {t : TypeId} {ti : TI} {x : Operand} {i off n sz : Nat} {v : Value} {e' : TypeId} {cs ts : List T} (hx : ρ x = .eptr i v off) (hi : hp[i]? = some (.row v e' sz n cs)) (ht : L.look t = some ti) (ha : ti.agg = true) (hts : (cs.drop off).take ti.size = ts) (hl : ts.length = ti.size) (h : K (.c (.agg ts)) hp) : LO P F ⟨d, .load t x, ty, pos, aft, g⟩ ρ hp K := by
  refine LO.same (fun M e w he hh => ?_) h
  have h1 := he x (by first | (simp [Op.operands]; done) | simp [Op.operands, Call.operands])
  rw [hx] at h1
  simp only [RA] at h1
  obtain ⟨ad, n', c, rfl, hu⟩ := h1
  obtain ⟨xs, hxs, hat⟩ := own_load hh hi
  have hys : RTs M ts ((xs.drop off).take ti.size) := by rw [← hts]; exact (hxs.drop off).take ti.size
  have hlen : ((xs.drop off).take ti.size).length = ti.size := by rw [hys.len, hl]
  have hlc : (loadCells (ad.add off) ti.size).run P w = .ok ((xs.drop off).take ti.size).toArray w := by
    have := run_loadCells_list (P := P) w (ad.add off) ((xs.drop off).take ti.size) (fun j v hj => by
      rw [add_add']
      rw [List.getElem?_take] at hj
      split at hj
      · rw [List.getElem?_drop] at hj
        exact hat _ v hj
      · cases hj)
    rwa [hlen] at this
  refine ⟨.agg ((xs.drop off).take ti.size).toArray, ?_, by simp only [RA, RT]; exact ⟨_, rfl, hys⟩⟩
  simp [execOp, Instr.loadAt, hu, Instr.sureAddr, loadVar, hL.isAgg ht, ha, hL.sizeOf ht, hlc]

theorem lo_len (hL : TabOk P L) {t el : TypeId} {ti : TI} {x : Operand} {n sz : Nat} {cs : List T} (hx : ρ x = .c (.row n sz cs)) (ht : L.look t = some ti) (hd : ti.d = .slice el) (h : n ≤ 9223372036854775807 → K (.c (.lit (.int .i64 n))) hp) : LO P F ⟨d, .call { callee := .builtin .len, args := #[x], argTypes := #[t] }, ty, pos, aft, g⟩ ρ hp K := by
  refine ⟨fun M e w he hh => ?_⟩
  have h1 := he x (by first | (simp [Op.operands]; done) | simp [Op.operands, Call.operands])
  rw [hx] at h1
  simp only [RA, RT] at h1
  obtain ⟨A, c, xs, hu, _, hn, _⟩ := h1
  have : (execOp e ⟨d, .call { callee := .builtin .len, args := #[x], argTypes := #[t] }, ty, pos, aft, g⟩).run P w = .ok (.value (.int .i64 n)) w := by
    simp [execOp, resolve, invoke, builtin, Builtin.len_, hu, run_underlying (hL.slice ht hd), goInt]
  rw [this]
  exact ⟨M, _, hp, h hn, Ext.refl _ _, hh, by simp only [RA, RT]⟩
theorem lo_len_own (hL : TabOk P L) {t el : TypeId} {ti : TI} {x : Operand} {i n sz : Nat} {v : Value} {e' : TypeId} {cs : List T} (hx : ρ x = .own i v) (hi : hp[i]? = some (.row v e' sz n cs)) (ht : L.look t = some ti) (hd : ti.d = .slice el) (h : n ≤ 9223372036854775807 → K (.c (.lit (.int .i64 n))) hp) : LO P F ⟨d, .call { callee := .builtin .len, args := #[x], argTypes := #[t] }, ty, pos, aft, g⟩ ρ hp K := by
  refine ⟨fun M e w he hh => ?_⟩
  have h1 := he x (by first | (simp [Op.operands]; done) | simp [Op.operands, Call.operands])
  rw [hx] at h1
  simp only [RA] at h1
  obtain ⟨xs, ho, _⟩ := hh.at_ i _ hi
  obtain ⟨A, c, rfl, hnc, hc⟩ := own_shape ho
  have : (execOp e ⟨d, .call { callee := .builtin .len, args := #[x], argTypes := #[t] }, ty, pos, aft, g⟩).run P w = .ok (.value (.int .i64 n)) w := by
    simp [execOp, resolve, invoke, builtin, Builtin.len_, h1.1, run_underlying (hL.slice ht hd), goInt]
  rw [this]
  exact ⟨M, _, hp, h (Nat.le_trans hnc hc), Ext.refl _ _, hh, by simp only [RA, RT]⟩
theorem lo_len_str (hL : TabOk P L) {t : TypeId} {ti : TI} {x : Operand} {s : ByteArray} (hx : ρ x = .c (.lit (.string s))) (ht : L.look t = some ti) (hd : ti.d = .string) (h : K (.c (.lit (.int .i64 s.size))) hp) : LO P F ⟨d, .call { callee := .builtin .len, args := #[x], argTypes := #[t] }, ty, pos, aft, g⟩ ρ hp K := by
  refine LO.same (fun M e w he hh => ?_) h
  have h1 := he x (by first | (simp [Op.operands]; done) | simp [Op.operands, Call.operands])
  rw [hx] at h1
  simp only [RA, RT] at h1
  exact ⟨_, by simp [execOp, resolve, invoke, builtin, Builtin.len_, h1, run_underlying (hL.string ht hd), goInt]; rfl, by simp only [RA, RT]⟩
theorem lo_len_nil (hL : TabOk P L) {t el : TypeId} {ti : TI} {x : Operand} (hx : ρ x = .c (.lit (.slice none 0 0))) (ht : L.look t = some ti) (hd : ti.d = .slice el) (h : K (.c (.lit (.int .i64 0))) hp) : LO P F ⟨d, .call { callee := .builtin .len, args := #[x], argTypes := #[t] }, ty, pos, aft, g⟩ ρ hp K := by
  refine LO.same (fun M e w he hh => ?_) h
  have h1 := he x (by first | (simp [Op.operands]; done) | simp [Op.operands, Call.operands])
  rw [hx] at h1
  simp only [RA, RT] at h1
  exact ⟨_, by simp [execOp, resolve, invoke, builtin, Builtin.len_, h1, run_underlying (hL.slice ht hd), goInt]; rfl, by simp only [RA, RT]⟩

/-! ### calls -/
theorem HeapOk.below {M M' : Mm} {w w' : World} (hh : HeapOk F M hp w) (hb : Below w.heap.size w w') (hM : Ext (fr w.heap.size) M M') (hm : MemOk M' w') : HeapOk F M' hp w' :=
  hh.step hp.length hb.os hb.tape hb.output hb.size (fun b hlt _ => hb.block b hlt) hM (fun p v h1 _ => hm p v h1) (fun _ _ => rfl) (fun x' hx' => by rw [List.getElem?_eq_none (Nat.le_refl _)] at hx'; cases hx')
theorem MemOk.below {M : Mm} {w w' : World} (h : MemOk M w) (hb : Below w.heap.size w w') : MemOk M w' := by
  intro p v hp
  obtain ⟨h1, h2⟩ := h p v hp
  exact ⟨(hb.cell (World.block_lt_of_cell? w p h1)).trans h1, h2⟩
mutual
theorem cl_sound {M : Mm} : ∀ (av : AV) (t : T) (u : Value), Rz [] av t → RA M av u → RT M t u
  | .c t, t', u, hz, hr => by
    simp only [Rz] at hz
    simp only [RA] at hr
    rcases hz with rfl | ⟨rfl, sz, h0, rfl⟩
    · exact hr
    · exact rt_nil h0 hr
  | .own i v, t', u, hz, hr => by simp [Rz] at hz
  | .agg cs, t', u, hz, hr => by
    simp only [Rz] at hz
    obtain ⟨ts, rfl, h1⟩ := hz
    simp only [RA] at hr
    obtain ⟨xs, rfl, h2⟩ := hr
    simp only [RT]
    exact ⟨xs, rfl, cls_sound cs ts xs h1 h2⟩
  | .tup cs, t', u, hz, hr => by
    simp only [Rz] at hz
    obtain ⟨ts, rfl, h1⟩ := hz
    simp only [RA] at hr
    obtain ⟨xs, rfl, h2⟩ := hr
    simp only [RT]
    exact ⟨xs, rfl, cls_sound cs ts xs h1 h2⟩
  | .fn f cap, t', u, hz, hr => by
    simp only [Rz] at hz
    obtain ⟨ts, rfl, h1⟩ := hz
    simp only [RA] at hr
    obtain ⟨xs, rfl, h2⟩ := hr
    simp only [RT]
    exact ⟨xs, rfl, cls_sound cap ts xs h1 h2⟩
  | .ptr i b off, t', u, hz, hr => by simp [Rz] at hz
  | .eptr _ _ _, _, _, hz, _ => by simp only [Rz] at hz
  | .junk, _, _, hz, _ => by simp only [Rz] at hz
theorem cls_sound {M : Mm} : ∀ (as : List AV) (ts : List T) (us : List Value), Rzs [] as ts → RAs M as us → RTs M ts us
  | [], ts, us, hz, hr => by
    simp only [Rzs] at hz
    simp only [RAs] at hr
    subst hz; subst hr
    simp only [RTs]
  | a :: as, ts, us, hz, hr => by
    simp only [Rzs] at hz
    obtain ⟨t, r, rfl, h1, h2⟩ := hz
    simp only [RAs] at hr
    obtain ⟨x, xs, rfl, h3, h4⟩ := hr
    simp only [RTs]
    exact ⟨x, xs, rfl, cl_sound a t x h1 h3, cls_sound as r xs h2 h4⟩
end
theorem ev_all {M : Mm} {e : Operand → Value} : ∀ xs : List Operand, (∀ x ∈ xs, RA M (ρ x) (e x)) → RAs M (xs.map ρ) (xs.map e)
  | [], _ => by simp [RAs]
  | y :: ys, he => by simp only [List.map_cons, RAs]; exact ⟨_, _, rfl, he y (by simp), ev_all ys fun x hx => he x (by simp [hx])⟩
theorem run_call {f : FuncId} (hf : Enters P f) {e : Operand → Value} {y : Operand} {cs : List Value} (hy : e y = .func (.func f) #[] cs.toArray) (xs : List Operand) (ats : Array TypeId) (w : World) :
    (execOp e ⟨d, .call { callee := .value y, args := xs.toArray, argTypes := ats }, ty, pos, aft, g⟩).run P w = .ok (.enter f (xs.map e ++ cs).toArray) w := by
  obtain ⟨fn, h1, h2, h3⟩ := hf
  simp [execOp, resolve, hy, Deferred.ofValue, invoke, callFunc, h1]
  rw [if_neg (by simpa using h2), if_neg (fun e => by rw [e] at h3; cases h3)]
/-- calling a function -/
theorem lo_call {f : FuncId} {y : Operand} {xs : List Operand} {ats : Array TypeId} {ts : List T} {R : T → Prop} {cap : List AV} (hc : AF P f ts R) (hy : ρ y = .fn (.func f) cap) (hx : Rzs [] (xs.map ρ ++ cap) ts) (h : ∀ r, R r → K (.c r) hp) : LO P F ⟨d, .call { callee := .value y, args := xs.toArray, argTypes := ats }, ty, pos, aft, g⟩ ρ hp K := by
  refine ⟨fun M e w he hh => ?_⟩
  obtain ⟨hf, hcall⟩ := hc
  have h1 := he y (by first | (simp [Op.operands]; done) | simp [Op.operands, Call.operands])
  rw [hy] at h1
  simp only [RA] at h1
  obtain ⟨cs, hu, hcs⟩ := h1
  rw [run_call hf hu]
  have hargs := cls_sound _ _ _ hx ((ev_all xs (fun x hx => he x (by simp [Op.operands, Call.operands, hx]))).app hcs)
  refine (hcall M w _ hh.mem hargs).mono ?_
  rintro en w' ⟨v, r, M', rfl, hR, hext, hm, hrt, hb⟩
  exact ⟨v, rfl, M', _, hp, h r hR, (hext.low hh.frm.size), hh.below hb hext hm, by simp only [RA]; exact hrt⟩
mutual
def flatT : T → Bool
  | .lit _ => true
  | .agg ts => flatTs ts
  | .tup ts => flatTs ts
  | _ => false
def flatTs : List T → Bool
  | [] => true
  | t :: ts => flatT t && flatTs ts
end
mutual
theorem flat_any {M M' : Mm} : ∀ (t : T) (u : Value), flatT t = true → RT M t u → RT M' t u
  | .lit v, u, _, h => by simpa only [RT] using h
  | .agg ts, u, hf, h => by
    simp only [RT] at h ⊢
    obtain ⟨xs, h1, h2⟩ := h
    exact ⟨xs, h1, flats_any ts xs (by simpa [flatT] using hf) h2⟩
  | .tup ts, u, hf, h => by
    simp only [RT] at h ⊢
    obtain ⟨xs, h1, h2⟩ := h
    exact ⟨xs, h1, flats_any ts xs (by simpa [flatT] using hf) h2⟩
  | .row _ _ _, _, hf, _ => by simp [flatT] at hf
  | .fn _ _, _, hf, _ => by simp [flatT] at hf
  | .pin _ _, _, hf, _ => by simp [flatT] at hf
theorem flats_any {M M' : Mm} : ∀ (ts : List T) (us : List Value), flatTs ts = true → RTs M ts us → RTs M' ts us
  | [], us, _, h => by simpa only [RTs] using h
  | t :: ts, us, hf, h => by
    simp only [flatTs, Bool.and_eq_true] at hf
    simp only [RTs] at h ⊢
    obtain ⟨x, r, e, h1, h2⟩ := h
    exact ⟨x, r, e, flat_any t x hf.1 h1, flats_any ts r hf.2 h2⟩
end
/-- calling a function that looks at what is the caller's own, and returns nothing that lies in memory -/
theorem lo_peek {f : FuncId} {y : Operand} {xs : List Operand} {ats : Array TypeId} {ts : List T} {R : T → Prop} {cap : List AV} (hc : AF P f ts R) (hy : ρ y = .fn (.func f) cap) (hx : Rzs hp (xs.map ρ ++ cap) ts) (h : ∀ r, R r → flatT r = true ∧ K (.c r) hp) : LO P F ⟨d, .call { callee := .value y, args := xs.toArray, argTypes := ats }, ty, pos, aft, g⟩ ρ hp K := by
  refine ⟨fun M e w he hh => ?_⟩
  obtain ⟨hf, hcall⟩ := hc
  have h1 := he y (by first | (simp [Op.operands]; done) | simp [Op.operands, Call.operands])
  rw [hy] at h1
  simp only [RA] at h1
  obtain ⟨cs, hu, hcs⟩ := h1
  rw [run_call hf hu]
  have hargs := rzs_sound hh (B := 0) (fun _ _ _ _ _ => Nat.zero_le _) _ _ _ hx ((ev_all xs (fun x hx => he x (by simp [Op.operands, Call.operands, hx]))).app hcs)
  refine (hcall _ w _ (frz_ok hh.mem 0) hargs).mono ?_
  rintro en w' ⟨v, r, M', rfl, hR, _, _, hrt, hb⟩
  exact ⟨v, rfl, M, _, hp, (h r hR).2, Ext.refl _ _, hh.below hb (Ext.refl _ _) (hh.mem.below hb), by simp only [RA]; exact flat_any _ _ (h r hR).1 hrt⟩

/-! ### append -/
theorem row_rd {M : Mm} {w : World} (hm : MemOk M w) {n sz : Nat} {cs : List T} {u : Value} (h : RT M (.row n sz cs) u) : ∃ A c xs, u = .slice A n c ∧ n ≤ maxLen ∧ Rd w w.heap.size sz A n xs ∧ RTs M cs xs ∧ OneAll xs := by
  simp only [RT] at h
  obtain ⟨A, c, xs, rfl, _, hn, hsz, hl, hA, hx⟩ := h
  refine ⟨A, c, xs, rfl, hn, ⟨hl, fun h0 => ?_⟩, hx, fun x hx => ?_⟩
  · obtain ⟨ad, rfl, hat⟩ := hA h0
    have h0l : 0 < xs.length := by rw [hl]; exact Nat.mul_pos h0 hsz
    have := World.block_lt_of_cell? w _ (hm _ _ (hat 0 _ (List.getElem?_eq_getElem h0l))).1
    rw [add_block] at this
    exact ⟨ad, rfl, this, fun j u hu => (hm _ _ (hat j u hu)).1⟩
  · obtain ⟨j, hj, rfl⟩ := List.getElem_of_mem hx
    have h0 : 0 < n := by
      rcases Nat.eq_zero_or_pos n with h | h
      · subst h; simp at hl; rw [hl] at hj; simp at hj
      · exact h
    obtain ⟨ad, rfl, hat⟩ := hA h0
    exact (hm _ _ (hat j _ (List.getElem?_eq_getElem hj))).2
theorem mem_fresh {M : Mm} {w : World} (hm : MemOk M w) {p : Addr} (hp : w.heap.size ≤ p.block) : M p = none := by
  cases hc : M p with
  | none => rfl
  | some v => have := World.block_lt_of_cell? w p (hm p v hc).1; omega
theorem run_app (hL : TabOk P L) {t el : TypeId} {ti te : TI} (ht : L.look t = some ti) (hd : ti.d = .slice el) (hte : L.look el = some te) {M : Mm} {w : World} (hm : MemOk M w) (hsz : 0 < te.size) {v u : Value} {n m : Nat} {xs : List Value} {ts : List T} (hown : w.ownsRow 0 el te.size v n xs) (hu : RT M (.row m te.size ts) u)
    (h63 : n + m ≤ maxLen) (hbytes : (n + m) * te.bytes ≤ 140737488355328) :
    ∃ v' w' ys, (Builtin.append_ #[t, t] ty #[v, u]).run P w = .ok v' w' ∧ w'.ownsRow 0 el te.size v' (n + m) (xs ++ ys) ∧ RTs M ts ys ∧ OneAll ys ∧ w.grownBy w' v.ownBlock ∧ (v'.ownBlock = v.ownBlock ∨ v'.ownBlock = some w.heap.size) := by
  obtain ⟨inf, z, h1, h2, h3, h4, h5, h6, _⟩ := hL.info hte
  obtain ⟨A, c, ys, rfl, _, hrd, hys, hone⟩ := row_rd hm hu
  obtain ⟨v', w', g1, g2, g3, g4⟩ := run_append_at (P := P) w 0 t ty el inf z te.size te.bytes (hL.slice ht hd) h1 h4 h2 h3 h6.1 hsz v n xs hown w.heap.size A m c ys hrd hone h63 hbytes (Nat.zero_le _)
  exact ⟨v', w', ys, g1, g2, hys, hone, g3, g4⟩
theorem own_one {w : World} {base sz n : Nat} {e : TypeId} {v : Value} {xs : List Value} (h : w.ownsRow base e sz v n xs) : v.oneCell' = true := by
  obtain ⟨A, c, rfl, _⟩ := own_shape h
  rfl
theorem OneAll.app {xs ys : List Value} (h : OneAll xs) (h' : OneAll ys) : OneAll (xs ++ ys) := fun x hx => (List.mem_append.1 hx).elim (h x) (h' x)
theorem exec_append {e : Operand → Value} {x y : Operand} {t : TypeId} (w : World) {v' : Value} {w' : World} (h : (Builtin.append_ #[t, t] ty #[e x, e y]).run P w = .ok v' w') :
    (execOp e ⟨d, .call { callee := .builtin .append, args := #[x, y], argTypes := #[t, t] }, ty, pos, aft, g⟩).run P w = .ok (.value v') w' := by
  simp [execOp, resolve, invoke, builtin, h]
theorem lo_app (hL : TabOk P L) {t el : TypeId} {ti te : TI} {x y : Operand} {i n m sz : Nat} {v : Value} {cs ts : List T} (hx : ρ x = .own i v) (hi : hp[i]? = some (.row v el sz n cs)) (hy : ρ y = .c (.row m sz ts)) (ht : L.look t = some ti) (hd : ti.d = .slice el) (hte : L.look el = some te) (hsz : te.size = sz) (h63 : n + m ≤ maxLen) (hbytes : (n + m) * te.bytes ≤ 140737488355328)
    (h : ∀ v', K (.own i v') (hp.set i (.row v' el sz (n + m) (cs ++ ts)))) : LO P F ⟨d, .call { callee := .builtin .append, args := #[x, y], argTypes := #[t, t] }, ty, pos, aft, g⟩ ρ hp K := by
  subst hsz
  refine ⟨fun M e w he hh => ?_⟩
  have h1 := he x (by first | (simp [Op.operands]; done) | simp [Op.operands, Call.operands])
  rw [hx] at h1
  simp only [RA] at h1
  have h2 := he y (by first | (simp [Op.operands]; done) | simp [Op.operands, Call.operands])
  rw [hy] at h2
  simp only [RA] at h2
  obtain ⟨xs, ho, hxs, hone, hsz⟩ := hh.at_ i _ hi
  obtain ⟨v', w', ys, g1, g2, g3, g4, g5, g6⟩ := run_app (ty := ty) hL ht hd hte hh.mem hsz ho h2 h63 hbytes
  rw [← h1.1] at g1
  rw [exec_append w g1]
  refine ⟨M, _, _, h v', Ext.refl _ _, ?_, by simp only [RA]; exact ⟨trivial, own_one g2⟩⟩
  refine hh.step i g5.os g5.tape g5.output g5.size (fun k hk hne => g5.block k hk (fun e => hne _ hi e.symm)) (Ext.refl _ _) (fun p v h1 h2 => by rw [h2] at h1; cases h1) (fun j hj => by rw [List.getElem?_set_ne (Ne.symm hj)]) (fun x' hx' => ?_)
  have hlt : i < hp.length := (List.getElem?_eq_some_iff.1 hi).1
  rw [List.getElem?_set_self hlt] at hx'
  obtain rfl : Blk.row v' el te.size (n + m) (cs ++ ts) = x' := by injection hx'
  refine ⟨⟨_, g2, hxs.app g3, hone.app g4, hsz⟩, fun b hb => ?_⟩
  rcases g6 with g6 | g6
  · exact .inl ⟨_, hi, by simpa [Blk.blk, g6] using hb⟩
  · obtain rfl : w.heap.size = b := by simpa [Blk.blk, g6] using hb
    exact .inr ⟨Nat.le_refl _, fun p hp => mem_fresh hh.mem (by omega)⟩
theorem push_row {M M' : Mm} {w w' : World} (hh : HeapOk F M hp w) (hos : w'.os = w.os) (htape : w'.tape = w.tape) (hout : w'.output = w.output) (hsz : w.heap.size ≤ w'.heap.size) (hblk : ∀ b, b < w.heap.size → w'.heap[b]? = w.heap[b]?)
    (hM : Ext (fr w.heap.size) M M') (hnew : ∀ p v, M' p = some v → M p = none → w'.cell? p = some v ∧ v.oneCell' = true) {x : Blk} (hx : BlkOk M' w' x) (hxb : ∀ b, x.blk = some b → w.heap.size ≤ b ∧ ∀ p : Addr, p.block = b → M' p = none) : HeapOk F M' (hp ++ [x]) w' := by
  refine hh.step hp.length hos htape hout hsz (fun b hb _ => hblk b hb) hM hnew (fun j hj => ?_) (fun x' hx' => ?_)
  · rcases Nat.lt_or_ge j hp.length with h | h
    · rw [List.getElem?_append_left h]
    · rw [List.getElem?_eq_none (by simp; omega), List.getElem?_eq_none (by omega)]
  · have : x' = x := by simpa using hx'.symm
    subst this
    exact ⟨hx, fun b hb => .inr (hxb b hb)⟩
/-- onto nil: a new row -/
theorem lo_app_nil (hL : TabOk P L) {t el : TypeId} {ti te : TI} {x y : Operand} {m sz : Nat} {ts : List T} (hx : ρ x = .c (.lit (.slice none 0 0))) (hy : ρ y = .c (.row m sz ts)) (ht : L.look t = some ti) (hd : ti.d = .slice el) (hte : L.look el = some te) (hsz : te.size = sz) (h0 : 0 < sz) (hbytes : m * te.bytes ≤ 140737488355328)
    (h : ∀ v', K (.own hp.length v') (hp ++ [.row v' el sz m ts])) : LO P F ⟨d, .call { callee := .builtin .append, args := #[x, y], argTypes := #[t, t] }, ty, pos, aft, g⟩ ρ hp K := by
  subst hsz
  refine ⟨fun M e w he hh => ?_⟩
  have h1 := he x (by first | (simp [Op.operands]; done) | simp [Op.operands, Call.operands])
  rw [hx] at h1
  simp only [RA, RT] at h1
  have h2 := he y (by first | (simp [Op.operands]; done) | simp [Op.operands, Call.operands])
  rw [hy] at h2
  simp only [RA] at h2
  have hm : m ≤ maxLen := by
    simp only [RT] at h2
    obtain ⟨_, _, _, _, _, hm, _⟩ := h2
    exact hm
  obtain ⟨v', w', ys, g1, g2, g3, g4, g5, g6⟩ := run_app (ty := ty) hL ht hd hte hh.mem h0 (World.ownsRow_nil w 0 el te.size) h2 (by omega) (by simpa using hbytes)
  rw [← h1] at g1
  rw [exec_append w g1]
  refine ⟨M, _, _, h v', Ext.refl _ _, ?_, by simp only [RA]; exact ⟨trivial, own_one g2⟩⟩
  refine push_row hh g5.os g5.tape g5.output g5.size (fun k hk => g5.block k hk (by simp [Value.ownBlock])) (Ext.refl _ _) (fun p v h1 h2 => by rw [h2] at h1; cases h1) ⟨_, by simpa using g2, g3, g4, h0⟩ (fun b hb => ?_)
  rcases g6 with g6 | g6
  · have hb' : v'.ownBlock = some b := hb
    rw [g6] at hb'
    cases hb'
  · obtain rfl : w.heap.size = b := by simpa [Blk.blk, g6] using hb
    exact ⟨Nat.le_refl _, fun p hp => mem_fresh hh.mem (by omega)⟩
end

end Go.Proofs.Ythgackidonocpaa
