/-
  Abstract states: contracts of functions that are handed rows or variables of the caller's own, and may write them.
-/
import Derived.Test.YthgackidonocpaaAb19
namespace Go.Proofs.Ythgackidonocpaa
open Go.RowKit

theorem HeapOk.take {F : Frm} {M : Mm} {hp : List Blk} {w : World} (h : HeapOk F M hp w) (k : Nat) : HeapOk F M (hp.take k) w := by
  have hg : ∀ (i : Nat) (x : Blk), (hp.take k)[i]? = some x → hp[i]? = some x := by
    intro i x hx
    rw [List.getElem?_take] at hx
    split at hx
    · exact hx
    · cases hx
  exact ⟨h.mem, h.ext, h.frm, fun i x hx => h.at_ i x (hg i x hx), fun i j x y b hx hy => h.sep i j x y b (hg i x hx) (hg j y hy), fun i x b hx => h.out i x b (hg i x hx)⟩

/-- the function, given values that read so and blocks of the caller's own, returns a value that reads so, the blocks turned -/
def AG (P : Program) (f : FuncId) (as : List AV) (hs : List Blk) (R : AV → List Blk → Prop) : Prop :=
  Enters P f ∧ ∀ (F : Frm) (M : Mm) (w : World) (vs : List Value), HeapOk F M hs w → RAs M as vs →
    Calls P f vs.toArray w fun e w' => ∃ v r hs' M', e = .returned v ∧ R r hs' ∧ Ext F.may M M' ∧ HeapOk F M' hs' w' ∧ RA M' r v
theorem AG.imp {P : Program} {f : FuncId} {as : List AV} {hs : List Blk} {R R' : AV → List Blk → Prop} (h : AG P f as hs R) (hi : ∀ r hs, R r hs → R' r hs) : AG P f as hs R' :=
  ⟨h.1, fun F M w vs hM hv => (h.2 F M w vs hM hv).mono fun _ _ ⟨v, r, hs', M', h1, h2, h3⟩ => ⟨v, r, hs', M', h1, hi r hs' h2, h3⟩⟩

/-- the end of such a function: the first k blocks are handed back -/
structure FinG (L : Tab) (res : List ResultVar) (k : Nat) (R : AV → List Blk → Prop) (e : Exit) (σ : AS) : Prop where
  out : (e = .normal ∨ e = .ret) ∧ ∃ vs, OutsA L σ res vs ∧ R (outA vs) (σ.hp.take k)
section
variable {P : Program} {F : Frm} {L : Tab}
theorem ag_enter {f : FuncId} {fn : Func} {c : Code} {as : List AV} {hs : List Blk} {R : AV → List Blk → Prop} {N : Nat} {res : List ResultVar} (k : Nat) (hL : TabOk P L) (hf : P.funcs[f]? = some fn) (hNt : fn.ntmps = N) (hres : fn.results = res.toArray) (hb : fn.body = some c) (hn : (fn.name == "runtime.NumGoroutine") = false) (hN : Nat.ble as.length N = true)
    (h : ∀ F, AC P F c (FinG L res k R) ⟨initT N as, hs, N⟩) : AG P f as hs R := by
  refine ⟨⟨fn, hf, hn, by rw [hb]; rfl⟩, fun F M w vs hh hav => ?_⟩
  have hlen := hav.len
  have hNl := Nat.le_of_ble_eq_true hN
  refine calls_of_wp hf hb (wp_mono ((h ⟨F.w0, F.X, M⟩).out M _ w ⟨?_, ?_, rfl, ⟨hh.mem, Ext.refl _ _, ⟨hh.frm.os, hh.frm.tape, hh.frm.output, hh.frm.size, hh.frm.block⟩, hh.at_, hh.sep, hh.out⟩⟩) ?_)
  · intro i
    simp only [initT]
    by_cases hi : i < as.length
    · have : Nat.blt i N = true := Nat.ble_eq_true_of_le (by omega)
      rw [this, cond_true]
      have h1 : as[i]? = some as[i] := List.getElem?_eq_getElem hi
      obtain ⟨x, hx, hra⟩ := hav.get h1
      rw [List.getD_eq_getElem?_getD, h1]
      have h2 : i < vs.length := by omega
      have h3 : vs[i] = x := by rw [List.getElem?_eq_getElem h2] at hx; injection hx
      simp [Array.getD_eq_getD_getElem?, Array.getElem?_append, h2, h3]
      exact hra
    · have h1 : as.getD i (.c (.lit undef)) = .c (.lit undef) := by
        rw [List.getD_eq_getElem?_getD, List.getElem?_eq_none (by omega)]; rfl
      rw [h1]
      have h2 : ¬ i < vs.length := by omega
      have h3 : (vs.toArray ++ Array.replicate (fn.ntmps - vs.toArray.size) undef).getD i undef = undef := by
        simp [Array.getD_eq_getD_getElem?, Array.getElem?_append, h2, Array.getElem?_replicate]
        split <;> rfl
      rw [h3]
      cases Nat.blt i N <;> simp only [cond_true, cond_false, RA, RT]
  · simp [hNt]; omega
  · rintro e' a' w' ⟨M', σ', ⟨⟨he', vs', ho, hK⟩⟩, hr⟩
    rw [show res = fn.results.toList by rw [hres]] at ho
    obtain ⟨u, hu', hRA⟩ := resultsA_sound hL hr ho
    have hx : Ext F.may M M' := hr.heap.ext
    have hh' : HeapOk F M' σ'.hp w' := ⟨hr.heap.mem, hh.ext.trans hx, ⟨hr.heap.frm.os, hr.heap.frm.tape, hr.heap.frm.output, hr.heap.frm.size, hr.heap.frm.block⟩, hr.heap.at_, hr.heap.sep, hr.heap.out⟩
    have hfin : a'.defers = [] ∧ ∃ v, (results fn a'.tmps).run P w' = .ok v w' ∧ ∃ v' r hs' M', Ending.returned v = .returned v' ∧ R r hs' ∧ Ext F.may M M' ∧ HeapOk F M' hs' w' ∧ RA M' r v' :=
      ⟨hr.defers, u, hu', u, outA vs', σ'.hp.take k, M', rfl, hK, hx, hh'.take k, hRA⟩
    rcases he' with rfl | rfl <;> exact hfin
end

/-! ### which blocks are handed over, and where they come back -/
def selB (hp : List Blk) : List Nat → Option (List Blk)
  | [] => some []
  | i :: is => match hp[i]?, selB hp is with | some x, some r => some (x :: r) | _, _ => none
def freshB : List Nat → Bool
  | [] => true
  | i :: is => !is.contains i && freshB is
def putB (hp : List Blk) : List Nat → List Blk → List Blk
  | [], hs => hp ++ hs
  | _ :: _, [] => hp
  | i :: is, x :: hs => (putB hp is hs).set i x
def posB (hp : List Blk) (sel : List Nat) (i : Nat) : Nat := match sel[i]? with | some j => j | none => hp.length + (i - sel.length)
theorem selB_get {hp : List Blk} : ∀ {sel : List Nat} {hs : List Blk}, selB hp sel = some hs → ∀ {i : Nat} {x : Blk}, hs[i]? = some x → ∃ j : Nat, sel[i]? = some j ∧ hp[j]? = some x
  | [], hs, h, i, x, hx => by simp only [selB, Option.some.injEq] at h; subst h; simp at hx
  | k :: is, hs, h, i, x, hx => by
    simp only [selB] at h
    cases h1 : hp[k]? with
    | none => rw [h1] at h; cases h
    | some y =>
      cases h2 : selB hp is with
      | none => rw [h1, h2] at h; cases h
      | some r =>
        rw [h1, h2] at h
        simp only [Option.some.injEq] at h
        subst h
        cases i with
        | zero => simp only [List.getElem?_cons_zero, Option.some.injEq] at hx; subst hx; exact ⟨k, rfl, h1⟩
        | succ i => obtain ⟨j, h3, h4⟩ := selB_get h2 (i := i) (by simpa using hx); exact ⟨j, by simpa using h3, h4⟩
theorem selB_mem {hp : List Blk} : ∀ {sel : List Nat} {hs : List Blk}, selB hp sel = some hs → ∀ {j : Nat}, j ∈ sel → ∃ (i : Nat) (x : Blk), hs[i]? = some x ∧ hp[j]? = some x
  | [], hs, h, j, hj => by simp at hj
  | k :: is, hs, h, j, hj => by
    simp only [selB] at h
    cases h1 : hp[k]? with
    | none => rw [h1] at h; cases h
    | some y =>
      cases h2 : selB hp is with
      | none => rw [h1, h2] at h; cases h
      | some r =>
        rw [h1, h2] at h
        simp only [Option.some.injEq] at h
        subst h
        rcases List.mem_cons.1 hj with rfl | hj
        · exact ⟨0, y, rfl, h1⟩
        · obtain ⟨i, x, h3, h4⟩ := selB_mem h2 hj
          exact ⟨i + 1, x, by simpa using h3, h4⟩
theorem freshB_inj : ∀ {sel : List Nat}, freshB sel = true → ∀ {i i' j : Nat}, sel[i]? = some j → sel[i']? = some j → i = i'
  | [], _, i, i', j, h, _ => by simp at h
  | k :: is, hf, i, i', j, h, h' => by
    simp only [freshB, Bool.and_eq_true, Bool.not_eq_true', List.contains_eq_mem, decide_eq_false_iff_not] at hf
    cases i with
    | zero =>
      simp only [List.getElem?_cons_zero, Option.some.injEq] at h
      cases i' with
      | zero => rfl
      | succ i' => simp only [List.getElem?_cons_succ] at h'; exact absurd (h ▸ List.mem_of_getElem? h') hf.1
    | succ i =>
      simp only [List.getElem?_cons_succ] at h
      cases i' with
      | zero => simp only [List.getElem?_cons_zero, Option.some.injEq] at h'; exact absurd (h' ▸ List.mem_of_getElem? h) hf.1
      | succ i' => simp only [List.getElem?_cons_succ] at h'; rw [freshB_inj hf.2 h h']
theorem putB_get {hp : List Blk} : ∀ {sel : List Nat} {hs : List Blk}, sel.length ≤ hs.length → ∀ {j : Nat} {x : Blk}, (putB hp sel hs)[j]? = some x → (∃ i, j = posB hp sel i ∧ hs[i]? = some x) ∨ (hp[j]? = some x ∧ j ∉ sel)
  | [], hs, _, j, x, h => by
    simp only [putB] at h
    rcases Nat.lt_or_ge j hp.length with hj | hj
    · rw [List.getElem?_append_left hj] at h
      exact .inr ⟨h, by simp⟩
    · rw [List.getElem?_append_right hj] at h
      exact .inl ⟨j - hp.length, by simp only [posB, List.getElem?_nil, List.length_nil]; omega, h⟩
  | k :: is, [], hl, _, _, _ => by simp at hl
  | k :: is, y :: hs, hl, j, x, h => by
    simp only [putB, List.getElem?_set] at h
    split at h
    · rename_i hkj
      subst hkj
      split at h
      · exact .inl ⟨0, rfl, by simpa using h⟩
      · cases h
    · rename_i hkj
      rcases putB_get (by simpa using hl) h with ⟨i, h1, h2⟩ | ⟨h1, h2⟩
      · refine .inl ⟨i + 1, ?_, by simpa using h2⟩
        rw [h1]
        simp only [posB, List.getElem?_cons_succ, List.length_cons]
        split <;> omega
      · exact .inr ⟨h1, by simp [h2, Ne.symm hkj]⟩

def subF (M : Mm) (hs : List Blk) (w : World) : Frm := ⟨w, fun b => ∃ (i : Nat) (x : Blk), hs[i]? = some x ∧ x.blk = some b, M⟩
theorem heap_sel {F : Frm} {M : Mm} {hp hs : List Blk} {w : World} {sel : List Nat} (h : HeapOk F M hp w) (hs' : selB hp sel = some hs) (hf : freshB sel = true) : HeapOk (subF M hs w) M hs w := by
  refine ⟨h.mem, Ext.refl _ _, ⟨rfl, rfl, rfl, Nat.le_refl _, fun _ _ _ => rfl⟩, fun i x hx => ?_, fun i j x y b hx hy hxb hyb => ?_, fun i x b hx hxb => ?_⟩
  · obtain ⟨j, _, h2⟩ := selB_get hs' hx
    exact h.at_ j x h2
  · obtain ⟨k, h1, h2⟩ := selB_get hs' hx
    obtain ⟨k', h3, h4⟩ := selB_get hs' hy
    have := h.sep k k' x y b h2 h4 hxb hyb
    subst this
    exact freshB_inj hf h1 h3
  · obtain ⟨j, _, h2⟩ := selB_get hs' hx
    exact ⟨.inl ⟨i, x, hx, hxb⟩, (h.out j x b h2 hxb).2⟩
theorem sub_may {F : Frm} {M : Mm} {hp hs : List Blk} {w : World} {sel : List Nat} (h : HeapOk F M hp w) (hs' : selB hp sel = some hs) (b : Nat) (hb : (subF M hs w).may b) : F.may b := by
  rcases hb with ⟨i, x, hx, hxb⟩ | hb
  · obtain ⟨j, _, h2⟩ := selB_get hs' hx
    exact (h.out j x b h2 hxb).1
  · exact .inr (Nat.le_trans h.frm.size hb)
theorem heap_put {F : Frm} {M M' : Mm} {hp hs hs2 : List Blk} {w w' : World} {sel : List Nat} (h : HeapOk F M hp w) (hsl : selB hp sel = some hs) (hl : sel.length ≤ hs2.length) (h2 : HeapOk (subF M hs w) M' hs2 w') : HeapOk F M' (putB hp sel hs2) w' := by
  have hM : Ext (subF M hs w).may M M' := h2.ext
  have hX : ∀ b, (subF M hs w).X b → ∃ (j : Nat) (x : Blk), j ∈ sel ∧ hp[j]? = some x ∧ x.blk = some b := by
    rintro b ⟨i, x, hx, hb⟩
    obtain ⟨j, h3, h4⟩ := selB_get hsl hx
    exact ⟨j, x, List.mem_of_getElem? h3, h4, hb⟩
  have hold : ∀ (j : Nat) (x : Blk) (b : Nat), hp[j]? = some x → j ∉ sel → x.blk = some b → b < w.heap.size ∧ ¬ (subF M hs w).X b := by
    intro j x b hx hj hb
    refine ⟨(h.at_ j x hx).lt hb, fun hXb => ?_⟩
    obtain ⟨k, y, hk, hy, hyb⟩ := hX b hXb
    have := h.sep j k x y b hx hy hb hyb
    subst this
    exact hj hk
  refine ⟨h2.mem, h.ext.trans (hM.to (sub_may h hsl)), ⟨h2.frm.os.trans h.frm.os, h2.frm.tape.trans h.frm.tape, h2.frm.output.trans h.frm.output, Nat.le_trans h.frm.size h2.frm.size, fun b hb hnX => ?_⟩, fun j x hx => ?_, fun j k x y b hx hy hxb hyb => ?_, fun j x b hx hxb => ?_⟩
  · refine (h2.frm.block b (Nat.lt_of_lt_of_le hb h.frm.size) fun hXb => ?_).trans (h.frm.block b hb hnX)
    obtain ⟨k, y, _, hy, hyb⟩ := hX b hXb
    rcases (h.out k y b hy hyb).1 with h3 | h3
    · exact hnX h3
    · omega
  · rcases putB_get hl hx with ⟨i, _, hi⟩ | ⟨hj, hns⟩
    · exact h2.at_ i x hi
    · exact (h.at_ j x hj).keep hM.sub fun b hb hlt => h2.frm.block b hlt (hold j x b hj hns hb).2
  · rcases putB_get hl hx with ⟨i, hji, hi⟩ | ⟨hj, hns⟩
    · rcases putB_get hl hy with ⟨i', hji', hi'⟩ | ⟨hk, hns'⟩
      · rw [hji, hji', h2.sep i i' x y b hi hi' hxb hyb]
      · obtain ⟨h3, h4⟩ := hold k y b hk hns' hyb
        rcases (h2.out i x b hi hxb).1 with h5 | h5
        · exact absurd h5 h4
        · have : w.heap.size ≤ b := h5
          omega
    · rcases putB_get hl hy with ⟨i', hji', hi'⟩ | ⟨hk, hns'⟩
      · obtain ⟨h3, h4⟩ := hold j x b hj hns hxb
        rcases (h2.out i' y b hi' hyb).1 with h5 | h5
        · exact absurd h5 h4
        · have : w.heap.size ≤ b := h5
          omega
      · exact h.sep j k x y b hj hk hxb hyb
  · rcases putB_get hl hx with ⟨i, hji, hi⟩ | ⟨hj, hns⟩
    · obtain ⟨h3, h4⟩ := h2.out i x b hi hxb
      refine ⟨?_, h4⟩
      rcases h3 with h5 | h5
      · obtain ⟨k, y, _, hy, hyb⟩ := hX b h5
        exact (h.out k y b hy hyb).1
      · exact .inr (Nat.le_trans h.frm.size h5)
    · obtain ⟨h3, h4⟩ := h.out j x b hj hxb
      refine ⟨h3, fun p hp' => ?_⟩
      have hlt := hold j x b hj hns hxb
      cases hc : M' p with
      | none => rfl
      | some v =>
        rcases hM.2 p v hc with h5 | h5
        · rw [h4 p hp'] at h5; cases h5
        · rcases h5 with h6 | h6
          · exact absurd (hp' ▸ h6) hlt.2
          · have h7 : w.heap.size ≤ p.block := h6
            omega

/-! ### the same value, told otherwise -/
def Re (a b : AV) : Prop := ∀ M u, RA M a u → RA M b u
def Res (as bs : List AV) : Prop := ∀ M us, RAs M as us → RAs M bs us
theorem re_refl {a : AV} : Re a a := fun _ _ h => h
theorem re_own {i j : Nat} {v : Value} : Re (.own i v) (.own j v) := fun M u h => by simp only [RA] at h ⊢; exact h
theorem re_ptr {i j b off : Nat} : Re (.ptr i b off) (.ptr j b off) := fun M u h => by simp only [RA] at h ⊢; exact h
theorem re_cls {a : AV} {t : T} (hz : Rzs [] [a] [t]) : Re a (.c t) := fun M u h => by
  have h1 : RAs M [a] [u] := by simp only [RAs]; exact ⟨u, [], rfl, h, rfl⟩
  have h2 := cls_sound _ _ _ hz h1
  simp only [RTs] at h2
  obtain ⟨x, r, e, h3, _⟩ := h2
  injection e with e _
  subst e
  simpa only [RA] using h3
theorem res_nil : Res [] [] := fun _ _ h => h
theorem res_cons {a b : AV} {as bs : List AV} (h : Re a b) (h' : Res as bs) : Res (a :: as) (b :: bs) := fun M us hu => by
  simp only [RAs] at hu ⊢
  obtain ⟨x, r, e, h1, h2⟩ := hu
  exact ⟨x, r, e, h M x h1, h' M r h2⟩

section
variable {P : Program} {F : Frm} {d : Option Tmp} {ty : TypeId} {pos : String} {aft : Array Edge} {g : Option (Nat × Bool)} {ρ : Operand → AV} {hp : List Blk} {K : AV → List Blk → Prop}
theorem lo_callG {f : FuncId} {y : Operand} {xs : List Operand} {ats : Array TypeId} {as cap : List AV} {hs : List Blk} {R : AV → List Blk → Prop} (sel : List Nat) (hc : AG P f as hs R) (hy : ∀ M u, RA M (ρ y) u → ∃ cs : List Value, u = .func (.func f) #[] cs.toArray ∧ RAs M cap cs) (hx : Res (xs.map ρ ++ cap) as) (hsl : selB hp sel = some hs) (hf : freshB sel = true)
    (h : ∀ r hs2, R r hs2 → ∃ r', Re r r' ∧ sel.length ≤ hs2.length ∧ K r' (putB hp sel hs2)) : LO P F ⟨d, .call { callee := .value y, args := xs.toArray, argTypes := ats }, ty, pos, aft, g⟩ ρ hp K := by
  refine ⟨fun M e w he hh => ?_⟩
  obtain ⟨hE, hcall⟩ := hc
  have h1 := he y (by simp [Op.operands, Call.operands])
  obtain ⟨cs, hu, hcs⟩ := hy M _ h1
  rw [run_call hE hu]
  have hav := (ev_all xs (fun x hx => he x (by simp [Op.operands, Call.operands, hx]))).app hcs
  refine (hcall (subF M hs w) M w _ (heap_sel hh hsl hf) (hx M _ hav)).mono ?_
  rintro e' w' ⟨v, r, hs2, M', rfl, hR, hM, hh2, hr⟩
  obtain ⟨r', hre, hl, hK⟩ := h r hs2 hR
  exact ⟨v, rfl, M', r', _, hK, hM.to (sub_may hh hsl), heap_put hh hsl hl hh2, hre M' v hr⟩
end

end Go.Proofs.Ythgackidonocpaa
