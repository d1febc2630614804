/-
  Abstract states: make, stores into a row of the call's own, a call walked in place (what it is given it may write).
-/
import Derived.Test.YthgackidonocpaaAb12
namespace Go.Proofs.Ythgackidonocpaa
open Go.RowKit

section
variable {P : Program} {F : Frm} {L : Tab} {d : Option Tmp} {ty : TypeId} {pos : String} {aft : Array Edge} {g : Option (Nat × Bool)} {ρ : Operand → AV} {hp : List Blk} {K : AV → List Blk → Prop}

theorem range_rep {α : Type} (z : List α) (d : α) (n : Nat) : (List.range (n * z.length)).map (fun j => z.getD (j % z.length) d) = (List.replicate n z).flatten := by
  induction n with
  | zero => simp
  | succ n ih =>
    rw [Nat.succ_mul, List.range_add, List.map_append, ih, List.replicate_succ', List.flatten_append]
    congr 1
    simp only [List.flatten_cons, List.flatten_nil, List.append_nil, List.map_map]
    apply List.ext_getElem
    · simp
    · intro k h1 h2
      simp [Nat.mod_eq_of_lt h2, List.getElem?_eq_getElem h2]
theorem RTs.rep {M : Mm} {z : List T} {xs : List Value} (h : RTs M z xs) : ∀ n, RTs M (List.replicate n z).flatten (List.replicate n xs).flatten
  | 0 => by simp [RTs]
  | n + 1 => by
    simp only [List.replicate_succ, List.flatten_cons]
    exact h.app (RTs.rep h n)
theorem lo_make (hL : TabOk P L) {t el : TypeId} {ti te : TI} {x y : Operand} (n : Nat) {k : IntKind} {a a' : Int} (hx : ρ x = .c (.lit (.int k a))) (hy : ρ y = .c (.lit (.int k a'))) (hz : a = (n : Int)) (hz' : a' = (n : Int)) (ht : L.look t = some ti) (hd : ti.d = .slice el) (hte : L.look el = some te) (h0 : Nat.ble 1 te.size = true) (hn : n * te.bytes ≤ 140737488355328) (hn2 : n ≤ 140737488355328) {z : List T} (hzz : Rzs [] (te.zero.map fun v => .c (.lit v)) z)
    (h : ∀ v, K (.own hp.length v) (hp ++ [.row v el te.size n (List.replicate n z).flatten])) : LO P F ⟨d, .makeSlice t x y, ty, pos, aft, g⟩ ρ hp K := by
  subst hz; subst hz'
  refine ⟨fun M e w he hh => ?_⟩
  have h1 := he x (by simp [Op.operands])
  rw [hx] at h1
  simp only [RA, RT] at h1
  have h2 := he y (by simp [Op.operands])
  rw [hy] at h2
  simp only [RA, RT] at h2
  obtain ⟨zv, hzv, hzc, hzs, hone⟩ := hL.zero hte
  obtain ⟨inf, _, hi1, hi2, hi3, _⟩ := hL.info hte
  have h0' := Nat.le_of_ble_eq_true h0
  have hzl : te.zero.length = te.size := by rw [← hzc, ← hzs]; simp
  have hw : IntKind.i64.wrap (n : Int) = n := IntWalk.i64_in _ (by omega)
  have hnm : n ≤ maxLen := by unfold maxLen; omega
  have hcells : (Array.range (n * te.size)).map (fun x => zv.cells[x % zv.cells.size]!) = ((List.range (n * te.size)).map fun j => te.zero.getD (j % te.size) undef).toArray := by
    rw [repl_cells zv.cells n te.size hzs h0', hzc]
  have hbig : ¬ ((te.bytes : Int) * (n : Int) > 2 ^ 48) := by
    have : (te.bytes : Int) * (n : Int) = ((n * te.bytes : Nat) : Int) := by rw [Nat.mul_comm]; simp
    rw [this]; omega
  have hrun : (execOp e ⟨d, .makeSlice t x y, ty, pos, aft, g⟩).run P w = .ok (.value (.slice (some ⟨w.heap.size, 0, none⟩) n n)) (w.alloc (.cells ((List.range (n * te.size)).map fun j => te.zero.getD (j % te.size) undef).toArray el)) := by
    simp only [execOp, Instr.makeSlice, Sem.run_bind, run_underlying (hL.slice ht hd), Result.andThen_ok, h1, h2, asInt, asIntOf, Sem.run_pure, typeInfo, run_program, hi1, hi3, hw]
    have hc : (decide ((n : Int) < 0) || decide ((te.bytes : Int) * (n : Int) > 2 ^ 48) || decide ((n : Int) < 0) || decide ((n : Int) > (n : Int))) = false := by simp; omega
    have hc' : ¬ ((decide ((n : Int) < 0) || decide ((te.bytes : Int) * (n : Int) > 2 ^ 48) || decide ((n : Int) < 0) || decide ((n : Int) > (n : Int))) = true) := by rw [hc]; simp
    simp only [if_neg hc', Sem.run_bind, Result.andThen_ok, run_askRoom, hL.sizeOf hte, Int.toNat_natCast]
    by_cases hnz : n * te.size = 0
    · have hr0 : Array.range 0 = #[] := rfl
      simp [hnz, hr0, newRow]
    · simp only [hnz, if_false, Sem.run_bind, hzv, Sem.run_pure, Result.andThen_ok, hcells]
      simp [newRow]
  rw [hrun]
  have hl : ((List.range (n * te.size)).map fun j => te.zero.getD (j % te.size) undef).length = n * te.size := by simp
  have hone' : OneAll ((List.range (n * te.size)).map fun j => te.zero.getD (j % te.size) undef) := by
    intro x hx
    simp only [List.mem_map, List.mem_range] at hx
    obtain ⟨j, _, rfl⟩ := hx
    have : j % te.size < te.zero.length := by rw [hzl]; exact Nat.mod_lt _ h0'
    rw [List.getD_eq_getElem?_getD, List.getElem?_eq_getElem this]
    exact hone _ (List.getElem_mem _)
  have hrt : RTs M (List.replicate n z).flatten ((List.range (n * te.size)).map fun j => te.zero.getD (j % te.size) undef) := by
    have h3 : RTs M z te.zero := cls_sound _ _ _ hzz (RAs.lits _)
    have h4 := range_rep te.zero undef n
    rw [hzl] at h4
    rw [h4]
    exact h3.rep n
  generalize ((List.range (n * te.size)).map fun j => te.zero.getD (j % te.size) undef) = ys at *
  have hown : (w.alloc (.cells ys.toArray el)).ownsRow 0 el te.size (.slice (some ⟨w.heap.size, 0, none⟩) n n) n ys :=
    ⟨hl, .inr ⟨w.heap.size, n, ys.toArray, rfl, Nat.zero_le _, heap_alloc_new w _, Nat.le_refl _, hnm, by simpa using hl, by simp [← hl]⟩⟩
  refine ⟨M, _, _, h (.slice (some ⟨w.heap.size, 0, none⟩) n n), Ext.refl _ _, ?_, by simp only [RA]; exact ⟨trivial, rfl⟩⟩
  refine push_row (w' := w.alloc (.cells ys.toArray el)) (x := .row (.slice (some ⟨w.heap.size, 0, none⟩) n n) el te.size n (List.replicate n z).flatten) hh rfl rfl rfl (by simp) (fun b hb => Below.heap_alloc _ _ _ hb) (Ext.refl _ _) (fun p v h1 h2 => by rw [h2] at h1; cases h1) ⟨ys, hown, hrt, hone', h0'⟩ (fun b hb => ?_)
  obtain rfl : w.heap.size = b := by simpa [Blk.blk, Value.ownBlock] using hb
  exact ⟨Nat.le_refl _, fun p hp => mem_fresh hh.mem (by omega)⟩

theorem RTs.set {M : Mm} : ∀ {ts : List T} {xs : List Value} (k : Nat) {t : T} {x : Value}, RTs M ts xs → RT M t x → RTs M (ts.set k t) (xs.set k x)
  | [], _, _, _, _, h, _ => by simp only [RTs] at h; subst h; simp [RTs]
  | a :: ts, _, 0, _, _, h, ht => by
    simp only [RTs] at h
    obtain ⟨x, r, rfl, h1, h2⟩ := h
    simp only [List.set_cons_zero, RTs]
    exact ⟨_, _, rfl, ht, h2⟩
  | a :: ts, _, k + 1, _, _, h, ht => by
    simp only [RTs] at h
    obtain ⟨x, r, rfl, h1, h2⟩ := h
    simp only [List.set_cons_succ, RTs]
    exact ⟨_, _, rfl, h1, RTs.set k h2 ht⟩
theorem RTs.spl {M : Mm} : ∀ {vs cs : List T} {us xs : List Value} {k : Nat}, RTs M cs xs → RTs M vs us → RTs M (spl cs k vs) (Go.Proofs.Ythgackidonocpaa.spl xs k us)
  | [], _, _, _, _, h, h' => by simp only [RTs] at h'; subst h'; exact h
  | v :: vs, cs, _, xs, k, h, h' => by
    simp only [RTs] at h'
    obtain ⟨x, r, rfl, h1, h2⟩ := h'
    exact RTs.spl (vs := vs) (cs := cs.set k v) (us := r) (xs := xs.set k x) (k := k + 1) (RTs.set k h h1) h2
theorem take_spl {α : Type} (c u : List α) (off k : Nat) (h : off + u.length ≤ k) (hk : k ≤ c.length) : (c.take off ++ u ++ c.drop (off + u.length)).take k = (c.take k).take off ++ u ++ (c.take k).drop (off + u.length) := by
  apply List.ext_getElem?
  intro i
  simp only [List.getElem?_take, List.getElem?_append, List.length_append, List.length_take, List.getElem?_drop, Nat.min_eq_left (show off ≤ c.length by omega), Nat.min_eq_left hk, Nat.min_eq_left (show off ≤ k by omega)]
  by_cases h1 : i < off
  · have : i < off + u.length := by omega
    simp [h1, this]
  · by_cases h2 : i < off + u.length
    · have : i < k := by omega
      simp [h1, h2, this]
    · have h3 : off + u.length + (i - (off + u.length)) = i := by omega
      simp [h2, h3]
/-- a store into an element of a row of the call's own -/
theorem lo_store_e (hL : TabOk P L) {t : TypeId} {ti : TI} {x y : Operand} {i off n sz : Nat} {v : Value} {e' : TypeId} {cs us : List T} {u : AV} (hx : ρ x = .eptr i v off) (hi : hp[i]? = some (.row v e' sz n cs)) (hy : ρ y = u) (ht : L.look t = some ti) (h1 : allOne (cellsA u) = true) (hl : (cellsA u).length = ti.size) (hz : Rzs [] (cellsA u) us) (hb : off + ti.size ≤ cs.length)
    (h : K (.c (.lit undef)) (hp.set i (.row v e' sz n (spl cs off us)))) : LO P F ⟨d, .store t x y, ty, pos, aft, g⟩ ρ hp K := by
  refine ⟨fun M e w he hh => ?_⟩
  have hax := he x (by simp [Op.operands])
  rw [hx] at hax
  simp only [RA] at hax
  obtain ⟨ad, m, c, rfl, hax⟩ := hax
  have hvy := he y (by simp [Op.operands])
  rw [hy] at hvy
  obtain ⟨hc, ho⟩ := cells_of hvy h1
  have hct := cls_sound _ _ _ hz hc
  obtain ⟨xs, how, hxs, hone, hsz⟩ := hh.at_ i _ hi
  have hlen := hxs.len
  have hcl := hc.len
  have hcs : (e y).cells.size = ti.size := by rw [← hl, ← hcl]; simp
  rcases how.2 with ⟨h0, _⟩ | ⟨g', cap, cur, hv, _, hg, hnc, hcm, hcur, htk⟩
  · cases h0
  · have hA : ad = ⟨g', 0, none⟩ := by injection hv with h; injection h
    have hmn : m = n := by injection hv
    have hcc : c = cap := by injection hv
    subst hA; subst hmn; subst hcc
    have hxl := how.1
    have hoff : off + (e y).cells.toList.length ≤ xs.length := by rw [hlen]; simp [hcs]; omega
    have hcl2 : xs.length ≤ cur.size := by rw [hxl, hcur]; exact Nat.mul_le_mul_right _ hnc
    have hst := run_storeCells_at (P := P) g' off e' (e y).cells.toList 0 cur w hg (by simp at hoff ⊢; omega) ho
    have hrun : (execOp e ⟨d, .store t x y, ty, pos, aft, g⟩).run P w = .ok .skip (w.setRow g' (spl cur.toList off (e y).cells.toList).toArray) := by
      rw [spl_eq _ _ _ (by simp at hoff ⊢; omega)]
      have hadd : (⟨g', 0, none⟩ : Addr).add off = ⟨g', off, none⟩ := by rw [box_add]; simp
      simp [execOp, Instr.storeAt, hax, hadd, Instr.sureAddr, storeVar, hL.sizeOf ht, hcs] at hst ⊢
      simp [hst]
    rw [hrun]
    refine ⟨M, _, _, h, Ext.refl _ _, ?_, by simp only [RA, RT]⟩
    have hblk := setRow_heap w g' cur (spl cur.toList off (e y).cells.toList).toArray e' _ hg
    refine hh.step i rfl rfl rfl (by simp [World.setRow]) (fun k hk hne => ?_) (Ext.refl _ _) (fun p v h1 h2 => by rw [h2] at h1; cases h1) (fun j hj => by rw [List.getElem?_set_ne (Ne.symm hj)]) (fun x' hx' => ?_)
    · have : k ≠ g' := fun e => hne _ hi (by rw [e]; rfl)
      simp [World.setRow, Array.getElem?_modify, Ne.symm this]
    · have hlt : i < hp.length := (List.getElem?_eq_some_iff.1 hi).1
      rw [List.getElem?_set_self hlt] at hx'
      obtain rfl : Blk.row (.slice (some ⟨g', 0, none⟩) m c) e' sz m (spl cs off us) = x' := by injection hx'
      refine ⟨⟨spl xs off (e y).cells.toList, ⟨by rw [spl_len]; exact hxl, .inr ⟨g', c, (spl cur.toList off (e y).cells.toList).toArray, rfl, Nat.zero_le _, hblk, hnc, hcm, by simp [spl_len, hcur], ?_⟩⟩, RTs.spl hxs hct, spl_one hone ho, hsz⟩, fun b' hb' => .inl ⟨_, hi, hb'⟩⟩
      simp only
      rw [spl_eq _ _ _ (by simp at hoff ⊢; omega), spl_eq _ _ _ hoff, ← htk]
      have hk : off + (e y).cells.toList.length ≤ m * sz := by rw [← hxl]; exact hoff
      exact take_spl cur.toList (e y).cells.toList off (m * sz) hk (by rw [hxl] at hcl2; simpa using hcl2)
end

/-! ### a call walked in place -/
section
variable {P : Program} {F : Frm} {L : Tab}
def OutA (L : Tab) (σ : AS) : ResultVar → AV → Prop
  | .tmp i, v => σ.tmps i = v
  | .cell a ty, v => ∃ i b off tb cs ti, σ.tmps a = .ptr i b off ∧ σ.hp[i]? = some (.box b tb cs) ∧ L.look ty = some ti ∧
      (match ti.agg with | true => off + ti.size ≤ cs.length ∧ v = .agg ((cs.drop off).take ti.size) | false => cs[off]? = some v)
def OutsA (L : Tab) (σ : AS) : List ResultVar → List AV → Prop
  | [], vs => vs = []
  | r :: rs, vs => ∃ v vs', vs = v :: vs' ∧ OutA L σ r v ∧ OutsA L σ rs vs'
def outA : List AV → AV
  | [v] => v
  | vs => .tup vs
structure FinA (L : Tab) (res : List ResultVar) (K : AV → List Blk → Prop) (e : Exit) (σ : AS) : Prop where
  out : (e = .normal ∨ e = .ret) ∧ ∃ vs, OutsA L σ res vs ∧ K (outA vs) σ.hp
theorem outA_sound {M : Mm} {σ : AS} {a : Act} {w : World} (hL : TabOk P L) (hr : Rep F M σ a w) {r : ResultVar} {v : AV} (ho : OutA L σ r v) :
    ∃ u, ((match r with | .tmp t => pure (a.tmps.getD t undef) | .cell a' t => do loadVar t (← asAddr (a.tmps.getD a' undef))) : Sem Value).run P w = .ok u w ∧ RA M v u := by
  cases r with
  | tmp i => exact ⟨_, rfl, by rw [← (show σ.tmps i = v from ho)]; exact hr.tmps i⟩
  | cell x ty =>
    obtain ⟨i, b, off, tb, cs, ti, h1, h2, h3, h4⟩ := ho
    have hv := hr.tmps x
    rw [h1] at hv
    simp only [RA] at hv
    simp only [hv, asAddr, Sem.run_bind, Sem.run_pure, Result.andThen_ok]
    cases hag : ti.agg with
    | true =>
      rw [hag] at h4
      obtain ⟨u, hu, hra⟩ := load_box hL hr.heap h2 h3 hag h4.1
      exact ⟨u, hu, by rw [h4.2]; exact hra⟩
    | false =>
      rw [hag] at h4
      exact load_box1 hL hr.heap h2 h3 hag h4
theorem outsA_sound {M : Mm} {σ : AS} {a : Act} {w : World} (hL : TabOk P L) (hr : Rep F M σ a w) : ∀ {rs : List ResultVar} {vs : List AV}, OutsA L σ rs vs →
    ∃ us, (rs.mapM fun r => ((match r with | .tmp t => pure (a.tmps.getD t undef) | .cell a' t => do loadVar t (← asAddr (a.tmps.getD a' undef))) : Sem Value)).run P w = .ok us w ∧ RAs M vs us
  | [], vs, ho => by
    simp only [OutsA] at ho
    subst ho
    exact ⟨[], rfl, by simp only [RAs]⟩
  | r :: rs, vs, ho => by
    simp only [OutsA] at ho
    obtain ⟨v, vs', rfl, h1, h2⟩ := ho
    obtain ⟨u, hu, hu'⟩ := outA_sound hL hr h1
    obtain ⟨us, hus, hus'⟩ := outsA_sound hL hr h2
    refine ⟨u :: us, ?_, by simp only [RAs]; exact ⟨u, us, rfl, hu', hus'⟩⟩
    simp only [List.mapM_cons, Sem.run_bind, hu, Result.andThen_ok, hus, Sem.run_pure]
theorem resultsA_sound {M : Mm} {σ : AS} {a : Act} {w : World} (hL : TabOk P L) (hr : Rep F M σ a w) {fn : Func} {vs : List AV} (ho : OutsA L σ fn.results.toList vs) :
    ∃ u, (results fn a.tmps).run P w = .ok u w ∧ RA M (outA vs) u := by
  obtain ⟨us, hus, hr⟩ := outsA_sound hL hr ho
  have hlen := hr.len
  have hm : (fn.results.mapM fun r => ((match r with | .tmp t => pure (a.tmps.getD t undef) | .cell a' t => do loadVar t (← asAddr (a.tmps.getD a' undef))) : Sem Value)).run P w = .ok us.toArray w := by
    rw [Array.mapM_eq_mapM_toList]
    rw [Sem.run_map, hus]
    rfl
  refine ⟨if h : us.toArray.size = 1 then us.toArray[0] else .tuple us.toArray, ?_, ?_⟩
  · unfold results
    simp only [Sem.run_bind, Sem.run_pure]
    erw [hm]
    rfl
  · match vs, us, hlen, hr with
    | [], [], _, hr => simp only [outA, RA]; exact ⟨[], by simp, hr⟩
    | [t], [u], _, hr =>
      simp only [RAs] at hr
      obtain ⟨x, r, e, h1, _⟩ := hr
      injection e with e _
      subst e
      simpa [outA] using h1
    | t1 :: t2 :: ts, u1 :: u2 :: us, _, hr => simp only [outA, RA]; exact ⟨u1 :: u2 :: us, by simp, hr⟩
def fcs : List AV → Option (List AV)
  | [] => some []
  | a :: l => match fc a, fcs l with | some a', some l' => some (a' :: l') | _, _ => none
theorem fcs_eq : ∀ {l r : List AV}, fcs l = some r → l = r
  | [], r, h => by simp only [fcs, Option.some.injEq] at h; exact h
  | a :: l, r, h => by
    simp only [fcs] at h
    cases ha : fc a with
    | none => rw [ha] at h; cases h
    | some a' =>
      cases hl : fcs l with
      | none => rw [ha, hl] at h; cases h
      | some l' =>
        rw [ha, hl] at h
        simp only [Option.some.injEq] at h
        rw [← h, fc_eq ha, fcs_eq hl]
theorem v_inl {d : Option Tmp} {ty : TypeId} {pos : String} {aft : Array Edge} {g : Option (Nat × Bool)} {ρ : Operand → AV} {hp : List Blk} {K : AV → List Blk → Prop} {f : FuncId} {fn : Func} {c : Code} {N : Nat} {res : List ResultVar} {y : Operand} {xs : List Operand} {ats : Array TypeId} {cap as : List AV}
    (hf : P.funcs[f]? = some fn) (hNt : fn.ntmps = N) (hres : fn.results = res.toArray) (hb : fn.body = some c) (hn : (fn.name == "runtime.NumGoroutine") = false) (hL : TabOk P L) (hy : ρ y = .fn (.func f) cap) (ha : fcs (xs.map ρ ++ cap) = some as) (hN : Nat.ble as.length N = true)
    (h : ∀ M0 : Mm, AC P ⟨F.w0, F.X, M0⟩ c (FinA L res K) ⟨initT N as, hp, N⟩) : LO P F ⟨d, .call { callee := .value y, args := xs.toArray, argTypes := ats }, ty, pos, aft, g⟩ ρ hp K := by
  refine ⟨fun M e w he hh => ?_⟩
  have h1 := he y (by simp [Op.operands, Call.operands])
  rw [hy] at h1
  simp only [RA] at h1
  obtain ⟨cs, hu, hcs⟩ := h1
  rw [run_call ⟨fn, hf, hn, by rw [hb]; rfl⟩ hu]
  have hav := (ev_all xs (fun x hx => he x (by simp [Op.operands, Call.operands, hx]))).app hcs
  rw [fcs_eq ha] at hav
  have hlen := hav.len
  have hNl := Nat.le_of_ble_eq_true hN
  generalize xs.map e ++ cs = vs at *
  refine calls_of_wp hf hb (wp_mono ((h M).out M _ w ⟨?_, ?_, rfl, ⟨hh.mem, Ext.refl _ _, ⟨hh.frm.os, hh.frm.tape, hh.frm.output, hh.frm.size, hh.frm.block⟩, hh.at_, hh.sep, hh.out⟩⟩) ?_)
  · intro i
    simp only [initT]
    by_cases hi : i < as.length
    · have : Nat.blt i N = true := Nat.ble_eq_true_of_le (by omega)
      rw [this, cond_true]
      have h1 : as[i]? = some as[i] := List.getElem?_eq_getElem hi
      obtain ⟨x, hx, hra⟩ := hav.get h1
      rw [List.getD_eq_getElem?_getD, h1]
      have h2 : i < vs.length := by omega
      have h3 : vs[i] = x := by rw [List.getElem?_eq_getElem h2] at hx; injection hx
      simp [Array.getD_eq_getD_getElem?, Array.getElem?_append, h2, h3]
      exact hra
    · have h1 : as.getD i (.c (.lit undef)) = .c (.lit undef) := by
        rw [List.getD_eq_getElem?_getD, List.getElem?_eq_none (by omega)]; rfl
      rw [h1]
      have h2 : ¬ i < vs.length := by omega
      have h3 : (vs.toArray ++ Array.replicate (fn.ntmps - vs.toArray.size) undef).getD i undef = undef := by
        simp [Array.getD_eq_getD_getElem?, Array.getElem?_append, h2, Array.getElem?_replicate]
        split <;> rfl
      rw [h3]
      cases Nat.blt i N <;> simp only [cond_true, cond_false, RA, RT]
  · simp [hNt]; omega
  · rintro e' a' w' ⟨M', σ', ⟨⟨he', vs', ho, hK⟩⟩, hr⟩
    rw [show res = fn.results.toList by rw [hres]] at ho
    obtain ⟨u, hu', hRA⟩ := resultsA_sound hL hr ho
    have hx : Ext F.may M M' := hr.heap.ext
    have hh' : HeapOk F M' σ'.hp w' := ⟨hr.heap.mem, hh.ext.trans hx, ⟨hr.heap.frm.os, hr.heap.frm.tape, hr.heap.frm.output, hr.heap.frm.size, hr.heap.frm.block⟩, hr.heap.at_, hr.heap.sep, hr.heap.out⟩
    have hfin : a'.defers = [] ∧ ∃ v, (results fn a'.tmps).run P w' = .ok v w' ∧ ∃ v', Ending.returned v = .returned v' ∧ ∃ M' v'' hp', K v'' hp' ∧ Ext F.may M M' ∧ HeapOk F M' hp' w' ∧ RA M' v'' v' :=
      ⟨hr.defers, u, hu', u, rfl, M', outA vs', σ'.hp, hK, hx, hh', hRA⟩
    rcases he' with rfl | rfl <;> exact hfin
end

end Go.Proofs.Ythgackidonocpaa
