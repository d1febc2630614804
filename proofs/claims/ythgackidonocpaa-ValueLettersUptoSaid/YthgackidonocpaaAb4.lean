/-
  Abstract states: entering a function and its results, calls; operations on memory.
-/
import Derived.Test.YthgackidonocpaaAb3
namespace Go.Proofs.Ythgackidonocpaa
open Go.RowKit

section
variable {P : Program} {F : Frm} {L : Tab}

/-! ### results -/
def Out1 (L : Tab) (σ : AS) : ResultVar → T → Prop
  | .tmp i, t => Rz σ.hp (σ.tmps i) t
  | .cell a ty, t => ∃ i b off tb cs ti, σ.tmps a = .ptr i b off ∧ σ.hp[i]? = some (.box b tb cs) ∧ L.look ty = some ti ∧
      (match ti.agg with | true => off + ti.size ≤ cs.length ∧ Rz σ.hp (.agg ((cs.drop off).take ti.size)) t | false => ∃ v, cs[off]? = some v ∧ Rz σ.hp v t)
def Outs (L : Tab) (σ : AS) : List ResultVar → List T → Prop
  | [], ts => ts = []
  | r :: rs, ts => ∃ t ts', ts = t :: ts' ∧ Out1 L σ r t ∧ Outs L σ rs ts'
def outT : List T → T
  | [t] => t
  | ts => .tup ts
/-- a function's end -/
structure Fin (L : Tab) (res : List ResultVar) (R : T → Prop) (e : Exit) (σ : AS) : Prop where
  out : (e = .normal ∨ e = .ret) ∧ ∃ ts, Outs L σ res ts ∧ R (outT ts)

theorem box_add (b off j : Nat) : (⟨b, off, none⟩ : Addr).add j = ⟨b, off + j, none⟩ := by unfold Addr.add; split <;> simp_all
/-- loading out of a variable -/
theorem load_box {M : Mm} {hp : List Blk} {w : World} (hL : TabOk P L) (h : HeapOk F M hp w) {i b off : Nat} {tb ty : TypeId} {cs : List AV} {ti : TI} (hi : hp[i]? = some (.box b tb cs)) (ht : L.look ty = some ti) (ha : ti.agg = true) (hl : off + ti.size ≤ cs.length) :
    ∃ u, (loadVar ty ⟨b, off, none⟩).run P w = .ok u w ∧ RA M (.agg ((cs.drop off).take ti.size)) u := by
  obtain ⟨xs, hh, hx, _⟩ := h.at_ i _ hi
  have hlen := hx.len
  refine ⟨.agg ((xs.drop off).take ti.size).toArray, ?_, by simp only [RA]; exact ⟨_, rfl, (hx.drop off).take ti.size⟩⟩
  have hlc : (loadCells ⟨b, off, none⟩ ti.size).run P w = .ok ((xs.drop off).take ti.size).toArray w := by
    have := run_loadCells_list (P := P) w ⟨b, off, none⟩ ((xs.drop off).take ti.size) (fun j v hj => by
      rw [box_add, cell_of_row _ b (off + j) _ _ _ hh]
      rw [List.getElem?_take] at hj
      split at hj
      · rw [List.getElem?_drop] at hj; simpa using hj
      · cases hj)
    rwa [show ((xs.drop off).take ti.size).length = ti.size by simp; omega] at this
  simp only [loadVar, Sem.run_bind, hL.isAgg ht, ha, Result.andThen_ok, if_true, hL.sizeOf ht, hlc, Sem.run_pure]
theorem load_box1 {M : Mm} {hp : List Blk} {w : World} (hL : TabOk P L) (h : HeapOk F M hp w) {i b off : Nat} {tb ty : TypeId} {cs : List AV} {ti : TI} {v : AV} (hi : hp[i]? = some (.box b tb cs)) (ht : L.look ty = some ti) (ha : ti.agg = false) (hv : cs[off]? = some v) :
    ∃ u, (loadVar ty ⟨b, off, none⟩).run P w = .ok u w ∧ RA M v u := by
  obtain ⟨xs, hh, hx, _⟩ := h.at_ i _ hi
  obtain ⟨x, hxo, hr⟩ := hx.get hv
  refine ⟨x, ?_, hr⟩
  have hcell : w.cell? ⟨b, off, none⟩ = some x := by rw [cell_of_row _ b off _ _ _ hh]; simpa using hxo
  simp only [loadVar, Sem.run_bind, hL.isAgg ht, ha, Result.andThen_ok, Bool.false_eq_true, if_false, run_load, hcell]

theorem out1_sound {M : Mm} {σ : AS} {a : Act} {w : World} (hL : TabOk P L) (hr : Rep F M σ a w) {B : Nat} (hB : ∀ (i : Nat) x b, σ.hp[i]? = some x → x.blk = some b → B ≤ b) {r : ResultVar} {t : T} (ho : Out1 L σ r t) :
    ∃ u, ((match r with | .tmp t => pure (a.tmps.getD t undef) | .cell a' t => do loadVar t (← asAddr (a.tmps.getD a' undef))) : Sem Value).run P w = .ok u w ∧ RT (frz M B w) t u := by
  cases r with
  | tmp i => exact ⟨_, rfl, rz_sound hr.heap hB _ _ _ ho (hr.tmps i)⟩
  | cell x ty =>
    obtain ⟨i, b, off, tb, cs, ti, h1, h2, h3, h4⟩ := ho
    have hv := hr.tmps x
    rw [h1] at hv
    simp only [RA] at hv
    simp only [hv, asAddr, Sem.run_bind, Sem.run_pure, Result.andThen_ok]
    cases hag : ti.agg with
    | true =>
      rw [hag] at h4
      obtain ⟨u, hu, hra⟩ := load_box hL hr.heap h2 h3 hag h4.1
      exact ⟨u, hu, rz_sound hr.heap hB _ _ _ h4.2 hra⟩
    | false =>
      rw [hag] at h4
      obtain ⟨v, hv, hz⟩ := h4
      obtain ⟨u, hu, hra⟩ := load_box1 hL hr.heap h2 h3 hag hv
      exact ⟨u, hu, rz_sound hr.heap hB _ _ _ hz hra⟩
theorem outs_sound {M : Mm} {σ : AS} {a : Act} {w : World} (hL : TabOk P L) (hr : Rep F M σ a w) {B : Nat} (hB : ∀ (i : Nat) x b, σ.hp[i]? = some x → x.blk = some b → B ≤ b) : ∀ {rs : List ResultVar} {ts : List T}, Outs L σ rs ts →
    ∃ us, (rs.mapM fun r => ((match r with | .tmp t => pure (a.tmps.getD t undef) | .cell a' t => do loadVar t (← asAddr (a.tmps.getD a' undef))) : Sem Value)).run P w = .ok us w ∧ RTs (frz M B w) ts us
  | [], ts, ho => by
    simp only [Outs] at ho
    subst ho
    exact ⟨[], rfl, by simp only [RTs]⟩
  | r :: rs, ts, ho => by
    simp only [Outs] at ho
    obtain ⟨t, ts', rfl, h1, h2⟩ := ho
    obtain ⟨u, hu, hu'⟩ := out1_sound hL hr hB h1
    obtain ⟨us, hus, hus'⟩ := outs_sound hL hr hB h2
    refine ⟨u :: us, ?_, by simp only [RTs]; exact ⟨u, us, rfl, hu', hus'⟩⟩
    simp only [List.mapM_cons, Sem.run_bind, hu, Result.andThen_ok, hus, Sem.run_pure]
theorem results_sound {M : Mm} {σ : AS} {a : Act} {w : World} (hL : TabOk P L) (hr : Rep F M σ a w) {B : Nat} (hB : ∀ (i : Nat) x b, σ.hp[i]? = some x → x.blk = some b → B ≤ b) {fn : Func} {ts : List T} (ho : Outs L σ fn.results.toList ts) :
    ∃ u, (results fn a.tmps).run P w = .ok u w ∧ RT (frz M B w) (outT ts) u := by
  obtain ⟨us, hus, hr⟩ := outs_sound hL hr hB ho
  have hlen := hr.len
  have hm : (fn.results.mapM fun r => ((match r with | .tmp t => pure (a.tmps.getD t undef) | .cell a' t => do loadVar t (← asAddr (a.tmps.getD a' undef))) : Sem Value)).run P w = .ok us.toArray w := by
    rw [Array.mapM_eq_mapM_toList]
    rw [Sem.run_map, hus]
    rfl
  refine ⟨if h : us.toArray.size = 1 then us.toArray[0] else .tuple us.toArray, ?_, ?_⟩
  · unfold results
    simp only [Sem.run_bind, Sem.run_pure]
    erw [hm]
    rfl
  · match ts, us, hlen, hr with
    | [], [], _, hr => simp only [outT, RT]; exact ⟨[], by simp, hr⟩
    | [t], [u], _, hr =>
      simp only [RTs] at hr
      obtain ⟨x, r, e, h1, _⟩ := hr
      injection e with e _
      subst e
      simpa [outT] using h1
    | t1 :: t2 :: ts, u1 :: u2 :: us, _, hr => simp only [outT, RT]; exact ⟨u1 :: u2 :: us, by simp, hr⟩

/-- a function walked -/
theorem af_of {f : FuncId} {fn : Func} {c : Code} {args : List T} {R : T → Prop} (hL : TabOk P L) (hf : P.funcs[f]? = some fn) (hb : fn.body = some c) (hn : (fn.name == "runtime.NumGoroutine") = false) (hN : args.length ≤ fn.ntmps)
    (h : ∀ F, (∀ b, ¬ F.X b) → AC P F c (Fin L fn.results.toList R) (AS.init fn.ntmps (args.map .c))) : AF P f args R := by
  refine ⟨⟨fn, hf, hn, by rw [hb]; rfl⟩, fun M w vs hM hvs => ?_⟩
  have hlen := hvs.len
  refine calls_of_wp hf hb (wp_mono ((h ⟨w, fun _ => False, M⟩ (fun _ h => h)).out M _ w ⟨?_, ?_, rfl, ?_⟩) ?_)
  · intro i
    have hav := RAs.ofT hvs
    simp only [AS.init]
    by_cases hi : i < args.length
    · have : Nat.blt i fn.ntmps = true := Nat.ble_eq_true_of_le (by omega)
      rw [this, cond_true]
      have h1 : (args.map AV.c)[i]? = some (.c args[i]) := by simp [hi]
      obtain ⟨x, hx, hra⟩ := hav.get h1
      rw [List.getD_eq_getElem?_getD, h1]
      have h2 : i < vs.length := by omega
      have h3 : vs[i] = x := by rw [List.getElem?_eq_getElem h2] at hx; injection hx
      simp [Array.getD_eq_getD_getElem?, Array.getElem?_append, h2, h3]
      exact hra
    · have h1 : (args.map AV.c).getD i (.c (.lit undef)) = .c (.lit undef) := by
        rw [List.getD_eq_getElem?_getD, List.getElem?_eq_none (by simp; omega)]; rfl
      rw [h1]
      have h2 : ¬ i < vs.length := by omega
      have h3 : (vs.toArray ++ Array.replicate (fn.ntmps - vs.toArray.size) undef).getD i undef = undef := by
        simp [Array.getD_eq_getD_getElem?, Array.getElem?_append, h2, Array.getElem?_replicate]
        split <;> rfl
      rw [h3]
      cases Nat.blt i fn.ntmps <;> simp only [cond_true, cond_false, RA, RT]
  · simp [AS.init]; omega
  · exact ⟨hM, Ext.refl _ _, ⟨rfl, rfl, rfl, Nat.le_refl _, fun _ _ _ => rfl⟩, fun i x hx => by simp [AS.init] at hx, fun i j x y b hx => by simp [AS.init] at hx, fun i x b hx => by simp [AS.init] at hx⟩
  · rintro e a' w' ⟨M', σ', ⟨⟨he, ts, ho, hR⟩⟩, hr⟩
    have hB : ∀ (i : Nat) x b, σ'.hp[i]? = some x → x.blk = some b → w.heap.size ≤ b := by
      intro i x b hx hxb
      rcases (hr.heap.out i x b hx hxb).1 with h1 | h1
      · exact h1.elim
      · exact h1
    obtain ⟨u, hu, hRT⟩ := results_sound hL hr hB ho
    have hfin : a'.defers = [] ∧ ∃ v, (results fn a'.tmps).run P w' = .ok v w' ∧ ∃ v' r M', Ending.returned v = .returned v' ∧ R r ∧ Ext (fr w.heap.size) M M' ∧ MemOk M' w' ∧ RT M' r v' ∧ Below w.heap.size w w' :=
      ⟨hr.defers, u, hu, u, outT ts, frz M' w.heap.size w', rfl, hR, (hr.heap.ext.to (fun _ h => h.elim (fun h => h.elim) id)).trans (frz_ext _ _), frz_ok hr.heap.mem _, hRT, ⟨hr.heap.frm.os, hr.heap.frm.tape, hr.heap.frm.output, hr.heap.frm.size, fun k hk => hr.heap.frm.block k hk (fun h => h)⟩⟩
    rcases he with rfl | rfl <;> exact hfin
end

end Go.Proofs.Ythgackidonocpaa
