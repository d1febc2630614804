/-
  Texts of this proof, part 6: Ab20 Ab21 Ab22 Ab23 Ab24 Ab29 Ab30 Ab32 Ab33 Ab34 Ab36 Ab37 Ab38 Ab39 Ab40 Ab41 Ab43 Ab45 Ab46.
-/
import Derived.Test.YtdogdjcjmhogmaaQMarkRuns5
import Derived.Laws.IdiomRangeMap
import Derived.Laws.Strings2
import Derived.Lib.AppendStr
import Derived.Lib.AppendZerosOnto
namespace Go.Proofs.Ytdogdjcjmhogmaa
open Go.RowKit
theorem HeapOk.take {F : Frm} {M : Mm} {hp : List Blk} {w : World} (h : HeapOk F M hp w) (k : Nat) : HeapOk F M (hp.take k) w := by
  have hg : ∀ (i : Nat) (x : Blk), (hp.take k)[i]? = some x → hp[i]? = some x := by
    intro i x hx
    rw [List.getElem?_take] at hx
    split at hx
    · exact hx
    · cases hx
  exact ⟨h.mem, h.ext, h.frm, fun i x hx => h.at_ i x (hg i x hx), fun i j x y b hx hy => h.sep i j x y b (hg i x hx) (hg j y hy), fun i x b hx => h.out i x b (hg i x hx)⟩
/-- the function, given values that read so and blocks of the caller's own, returns a value that reads so, the blocks turned -/
def AG (P : Program) (f : FuncId) (asq : List AV) (hs : List Blk) (R : AV → List Blk → Prop) : Prop :=
  Enters P f ∧ ∀ (F : Frm) (M : Mm) (w : World) (vs : List Value), HeapOk F M hs w → RAs M asq vs →
    Calls P f vs.toArray w fun e w' => ∃ v r hs' M', e = .returned v ∧ R r hs' ∧ Ext F.may M M' ∧ HeapOk F M' hs' w' ∧ RA M' r v
theorem AG.imp {P : Program} {f : FuncId} {asq : List AV} {hs : List Blk} {R R' : AV → List Blk → Prop} (h : AG P f asq hs R) (hi : ∀ r hs, R r hs → R' r hs) : AG P f asq hs R' :=
  ⟨h.1, fun F M w vs hM hv => (h.2 F M w vs hM hv).mono fun _ _ ⟨v, r, hs', M', h1, h2, h3⟩ => ⟨v, r, hs', M', h1, hi r hs' h2, h3⟩⟩
/-- the end of such a function: the first k blocks are handed back -/
structure FinG (L : Tab) (res : List ResultVar) (k : Nat) (R : AV → List Blk → Prop) (e : Exit) (σ : AS) : Prop where
  out : (e = .normal ∨ e = .ret) ∧ ∃ vs, OutsA L σ res vs ∧ R (outA vs) (σ.hp.take k)
section
variable {P : Program} {F : Frm} {L : Tab}
theorem ag_enter {f : FuncId} {fn : Func} {c : Code} {asq : List AV} {hs : List Blk} {R : AV → List Blk → Prop} {N : Nat} {res : List ResultVar} (k : Nat) (hL : TabOk P L) (hf : P.funcs[f]? = some fn) (hNt : fn.ntmps = N) (hres : fn.results = res.toArray) (hb : fn.body = some c) (hn : (fn.name == "runtime.NumGoroutine") = false) (hN : Nat.ble asq.length N = true)
    (h : ∀ F, AC P F c (FinG L res k R) ⟨initT N asq, hs, N⟩) : AG P f asq hs R := by
  refine ⟨⟨fn, hf, hn, by rw [hb]; rfl⟩, fun F M w vs hh hav => ?_⟩
  have hlen := hav.len
  have hNl := Nat.le_of_ble_eq_true hN
  refine calls_of_wp hf hb (wp_mono ((h ⟨F.w0, F.X, M, F.G, F.GX⟩).out M _ w ⟨?_, ?_, rfl, ⟨hh.mem, Ext.refl _ _, ⟨hh.frm.os, hh.frm.tape, hh.frm.output, hh.frm.size, hh.frm.block⟩, hh.at_, hh.sep, hh.out⟩⟩) ?_)
  · intro i
    simp only [initT]
    by_cases hi : i < asq.length
    · have : Nat.blt i N = true := Nat.ble_eq_true_of_le (by omega)
      rw [this, cond_true]
      have h1 : asq[i]? = some asq[i] := List.getElem?_eq_getElem hi
      obtain ⟨x, hx, hra⟩ := hav.get h1
      rw [List.getD_eq_getElem?_getD, h1]
      have h2 : i < vs.length := by omega
      have h3 : vs[i] = x := by rw [List.getElem?_eq_getElem h2] at hx; injection hx
      simp [Array.getD_eq_getD_getElem?, Array.getElem?_append, h2, h3]
      exact hra
    · have h1 : asq.getD i (.c (.lit undef)) = .c (.lit undef) := by
        rw [List.getD_eq_getElem?_getD, List.getElem?_eq_none (by omega)]; rfl
      rw [h1]
      have h2 : ¬ i < vs.length := by omega
      have h3 : (vs.toArray ++ Array.replicate (fn.ntmps - vs.toArray.size) undef).getD i undef = undef := by
        simp [Array.getD_eq_getD_getElem?, Array.getElem?_append, h2, Array.getElem?_replicate]
        split <;> rfl
      rw [h3]
      cases Nat.blt i N <;> simp only [cond_true, cond_false, RA, RT]
  · simp [hNt]; omega
  · rintro e' a' w' ⟨M', σ', ⟨⟨he', vs', ho, hK⟩⟩, hr⟩
    rw [show res = fn.results.toList by rw [hres]] at ho
    obtain ⟨u, hu', hRA⟩ := resultsA_sound hL hr ho
    have hx : Ext F.may M M' := hr.heap.ext
    have hh' : HeapOk F M' σ'.hp w' := ⟨hr.heap.mem, hh.ext.trans hx, ⟨hr.heap.frm.os, hr.heap.frm.tape, hr.heap.frm.output, hr.heap.frm.size, hr.heap.frm.block⟩, hr.heap.at_, hr.heap.sep, hr.heap.out⟩
    have hfin : a'.defers = [] ∧ ∃ v, (results fn a'.tmps).run P w' = .ok v w' ∧ ∃ v' r hs' M', Ending.returned v = .returned v' ∧ R r hs' ∧ Ext F.may M M' ∧ HeapOk F M' hs' w' ∧ RA M' r v' :=
      ⟨hr.defers, u, hu', u, outA vs', σ'.hp.take k, M', rfl, hK, hx, hh'.take k, hRA⟩
    rcases he' with rfl | rfl <;> exact hfin
end
def selB (hp : List Blk) : List Nat → Option (List Blk)
  | [] => some []
  | i :: is => match hp[i]?, selB hp is with | some x, some r => some (x :: r) | _, _ => none
def freshB : List Nat → Bool
  | [] => true
  | i :: is => !is.contains i && freshB is
def putB (hp : List Blk) : List Nat → List Blk → List Blk
  | [], hs => hp ++ hs
  | _ :: _, [] => hp
  | i :: is, x :: hs => (putB hp is hs).set i x
def posB (hp : List Blk) (sel : List Nat) (i : Nat) : Nat := match sel[i]? with | some j => j | none => hp.length + (i - sel.length)
theorem selB_get {hp : List Blk} : ∀ {sel : List Nat} {hs : List Blk}, selB hp sel = some hs → ∀ {i : Nat} {x : Blk}, hs[i]? = some x → ∃ j : Nat, sel[i]? = some j ∧ hp[j]? = some x
  | [], hs, h, i, x, hx => by simp only [selB, Option.some.injEq] at h; subst h; simp at hx
  | k :: is, hs, h, i, x, hx => by
    simp only [selB] at h
    cases h1 : hp[k]? with
    | none => rw [h1] at h; cases h
    | some y =>
      cases h2 : selB hp is with
      | none => rw [h1, h2] at h; cases h
      | some r =>
        rw [h1, h2] at h
        simp only [Option.some.injEq] at h
        subst h
        cases i with
        | zero => simp only [List.getElem?_cons_zero, Option.some.injEq] at hx; subst hx; exact ⟨k, rfl, h1⟩
        | succ i => obtain ⟨j, h3, h4⟩ := selB_get h2 (i := i) (by simpa using hx); exact ⟨j, by simpa using h3, h4⟩
theorem freshB_inj : ∀ {sel : List Nat}, freshB sel = true → ∀ {i i' j : Nat}, sel[i]? = some j → sel[i']? = some j → i = i'
  | [], _, i, i', j, h, _ => by simp at h
  | k :: is, hf, i, i', j, h, h' => by
    simp only [freshB, Bool.and_eq_true, Bool.not_eq_true', List.contains_eq_mem, decide_eq_false_iff_not] at hf
    cases i with
    | zero =>
      simp only [List.getElem?_cons_zero, Option.some.injEq] at h
      cases i' with
      | zero => rfl
      | succ i' => simp only [List.getElem?_cons_succ] at h'; exact absurd (h ▸ List.mem_of_getElem? h') hf.1
    | succ i =>
      simp only [List.getElem?_cons_succ] at h
      cases i' with
      | zero => simp only [List.getElem?_cons_zero, Option.some.injEq] at h'; exact absurd (h' ▸ List.mem_of_getElem? h) hf.1
      | succ i' => simp only [List.getElem?_cons_succ] at h'; rw [freshB_inj hf.2 h h']
theorem putB_get {hp : List Blk} : ∀ {sel : List Nat} {hs : List Blk}, sel.length ≤ hs.length → ∀ {j : Nat} {x : Blk}, (putB hp sel hs)[j]? = some x → (∃ i, j = posB hp sel i ∧ hs[i]? = some x) ∨ (hp[j]? = some x ∧ j ∉ sel)
  | [], hs, _, j, x, h => by
    simp only [putB] at h
    rcases Nat.lt_or_ge j hp.length with hj | hj
    · rw [List.getElem?_append_left hj] at h
      exact .inr ⟨h, by simp⟩
    · rw [List.getElem?_append_right hj] at h
      exact .inl ⟨j - hp.length, by simp only [posB, List.getElem?_nil, List.length_nil]; omega, h⟩
  | k :: is, [], hl, _, _, _ => by simp at hl
  | k :: is, y :: hs, hl, j, x, h => by
    simp only [putB, List.getElem?_set] at h
    split at h
    · rename_i hkj
      subst hkj
      split at h
      · exact .inl ⟨0, rfl, by simpa using h⟩
      · cases h
    · rename_i hkj
      rcases putB_get (by simpa using hl) h with ⟨i, h1, h2⟩ | ⟨h1, h2⟩
      · refine .inl ⟨i + 1, ?_, by simpa using h2⟩
        rw [h1]
        simp only [posB, List.getElem?_cons_succ, List.length_cons]
        split <;> omega
      · exact .inr ⟨h1, by simp [h2, Ne.symm hkj]⟩
theorem sub_gx {F : Frm} {M : Mm} {hp hs : List Blk} {w : World} {sel : List Nat} (h : HeapOk F M hp w) (hs' : selB hp sel = some hs) : ∀ x ∈ globTab, ¬ ∃ (i : Nat) (y : Blk), hs[i]? = some y ∧ y.blk = some x.1 := by
  rintro x hx ⟨i, y, h1, h2⟩
  obtain ⟨j, _, h3⟩ := selB_get hs' h1
  obtain ⟨t, fr, e⟩ := F.G x hx
  rcases (h.out j y x.1 h3 h2).1 with h4 | h4
  · exact F.GX x hx h4
  · have := (Array.getElem?_eq_some_iff.1 e).1; omega
def subF (M : Mm) (hs : List Blk) (w : World) (hG : Glob w) (hX : ∀ x ∈ globTab, ¬ ∃ (i : Nat) (y : Blk), hs[i]? = some y ∧ y.blk = some x.1) : Frm := ⟨w, fun b => ∃ (i : Nat) (x : Blk), hs[i]? = some x ∧ x.blk = some b, M, hG, hX⟩
theorem heap_sel {F : Frm} {M : Mm} {hp hs : List Blk} {w : World} {sel : List Nat} (h : HeapOk F M hp w) (hs' : selB hp sel = some hs) (hf : freshB sel = true) : HeapOk (subF M hs w h.glob (sub_gx h hs')) M hs w := by
  refine ⟨h.mem, Ext.refl _ _, ⟨rfl, rfl, rfl, Nat.le_refl _, fun _ _ _ => rfl⟩, fun i x hx => ?_, fun i j x y b hx hy hxb hyb => ?_, fun i x b hx hxb => ?_⟩
  · obtain ⟨j, _, h2⟩ := selB_get hs' hx
    exact h.at_ j x h2
  · obtain ⟨k, h1, h2⟩ := selB_get hs' hx
    obtain ⟨k', h3, h4⟩ := selB_get hs' hy
    have := h.sep k k' x y b h2 h4 hxb hyb
    subst this
    exact freshB_inj hf h1 h3
  · obtain ⟨j, _, h2⟩ := selB_get hs' hx
    exact ⟨.inl ⟨i, x, hx, hxb⟩, (h.out j x b h2 hxb).2⟩
theorem sub_may {F : Frm} {M : Mm} {hp hs : List Blk} {w : World} {sel : List Nat} (h : HeapOk F M hp w) (hs' : selB hp sel = some hs) (b : Nat) (hb : (subF M hs w h.glob (sub_gx h hs')).may b) : F.may b := by
  rcases hb with ⟨i, x, hx, hxb⟩ | hb
  · obtain ⟨j, _, h2⟩ := selB_get hs' hx
    exact (h.out j x b h2 hxb).1
  · exact .inr (Nat.le_trans h.frm.size hb)
theorem heap_put {F : Frm} {M M' : Mm} {hp hs hs2 : List Blk} {w w' : World} {sel : List Nat} (h : HeapOk F M hp w) (hsl : selB hp sel = some hs) (hl : sel.length ≤ hs2.length) (h2 : HeapOk (subF M hs w h.glob (sub_gx h hsl)) M' hs2 w') : HeapOk F M' (putB hp sel hs2) w' := by
  have hM : Ext (subF M hs w h.glob (sub_gx h hsl)).may M M' := h2.ext
  have hX : ∀ b, (subF M hs w h.glob (sub_gx h hsl)).X b → ∃ (j : Nat) (x : Blk), j ∈ sel ∧ hp[j]? = some x ∧ x.blk = some b := by
    rintro b ⟨i, x, hx, hb⟩
    obtain ⟨j, h3, h4⟩ := selB_get hsl hx
    exact ⟨j, x, List.mem_of_getElem? h3, h4, hb⟩
  have hold : ∀ (j : Nat) (x : Blk) (b : Nat), hp[j]? = some x → j ∉ sel → x.blk = some b → b < w.heap.size ∧ ¬ (subF M hs w h.glob (sub_gx h hsl)).X b := by
    intro j x b hx hj hb
    refine ⟨(h.at_ j x hx).lt hb, fun hXb => ?_⟩
    obtain ⟨k, y, hk, hy, hyb⟩ := hX b hXb
    have := h.sep j k x y b hx hy hb hyb
    subst this
    exact hj hk
  refine ⟨h2.mem, h.ext.trans (hM.to (sub_may h hsl)), ⟨h2.frm.os.trans h.frm.os, h2.frm.tape.trans h.frm.tape, h2.frm.output.trans h.frm.output, Nat.le_trans h.frm.size h2.frm.size, fun b hb hnX => ?_⟩, fun j x hx => ?_, fun j k x y b hx hy hxb hyb => ?_, fun j x b hx hxb => ?_⟩
  · refine (h2.frm.block b (Nat.lt_of_lt_of_le hb h.frm.size) fun hXb => ?_).trans (h.frm.block b hb hnX)
    obtain ⟨k, y, _, hy, hyb⟩ := hX b hXb
    rcases (h.out k y b hy hyb).1 with h3 | h3
    · exact hnX h3
    · omega
  · rcases putB_get hl hx with ⟨i, _, hi⟩ | ⟨hj, hns⟩
    · exact h2.at_ i x hi
    · exact (h.at_ j x hj).keep hM.sub fun b hb hlt => h2.frm.block b hlt (hold j x b hj hns hb).2
  · rcases putB_get hl hx with ⟨i, hji, hi⟩ | ⟨hj, hns⟩
    · rcases putB_get hl hy with ⟨i', hji', hi'⟩ | ⟨hk, hns'⟩
      · rw [hji, hji', h2.sep i i' x y b hi hi' hxb hyb]
      · obtain ⟨h3, h4⟩ := hold k y b hk hns' hyb
        rcases (h2.out i x b hi hxb).1 with h5 | h5
        · exact absurd h5 h4
        · have : w.heap.size ≤ b := h5
          omega
    · rcases putB_get hl hy with ⟨i', hji', hi'⟩ | ⟨hk, hns'⟩
      · obtain ⟨h3, h4⟩ := hold j x b hj hns hxb
        rcases (h2.out i' y b hi' hyb).1 with h5 | h5
        · exact absurd h5 h4
        · have : w.heap.size ≤ b := h5
          omega
      · exact h.sep j k x y b hj hk hxb hyb
  · rcases putB_get hl hx with ⟨i, hji, hi⟩ | ⟨hj, hns⟩
    · obtain ⟨h3, h4⟩ := h2.out i x b hi hxb
      refine ⟨?_, h4⟩
      rcases h3 with h5 | h5
      · obtain ⟨k, y, _, hy, hyb⟩ := hX b h5
        exact (h.out k y b hy hyb).1
      · exact .inr (Nat.le_trans h.frm.size h5)
    · obtain ⟨h3, h4⟩ := h.out j x b hj hxb
      refine ⟨h3, fun p hp' => ?_⟩
      have hlt := hold j x b hj hns hxb
      cases hc : M' p with
      | none => rfl
      | some v =>
        rcases hM.2 p v hc with h5 | h5
        · rw [h4 p hp'] at h5; cases h5
        · rcases h5 with h6 | h6
          · exact absurd (hp' ▸ h6) hlt.2
          · have h7 : w.heap.size ≤ p.block := h6
            omega
def Re (a b : AV) : Prop := ∀ M u, RA M a u → RA M b u
def Res (asq bs : List AV) : Prop := ∀ M us, RAs M asq us → RAs M bs us
theorem re_refl {a : AV} : Re a a := fun _ _ h => h
theorem re_own {i j : Nat} {v : Value} : Re (.own i v) (.own j v) := fun M u h => by simp only [RA] at h ⊢; exact h
theorem re_ptr {i j b off : Nat} : Re (.ptr i b off) (.ptr j b off) := fun M u h => by simp only [RA] at h ⊢; exact h
theorem re_cls {a : AV} {t : T} (hz : Rzs [] [a] [t]) : Re a (.c t) := fun M u h => by
  have h1 : RAs M [a] [u] := by simp only [RAs]; exact ⟨u, [], rfl, h, rfl⟩
  have h2 := cls_sound _ _ _ hz h1
  simp only [RTs] at h2
  obtain ⟨x, r, e, h3, _⟩ := h2
  injection e with e _
  subst e
  simpa only [RA] using h3
theorem res_nil : Res [] [] := fun _ _ h => h
theorem res_cons {a b : AV} {asq bs : List AV} (h : Re a b) (h' : Res asq bs) : Res (a :: asq) (b :: bs) := fun M us hu => by
  simp only [RAs] at hu ⊢
  obtain ⟨x, r, e, h1, h2⟩ := hu
  exact ⟨x, r, e, h M x h1, h' M r h2⟩
section
variable {P : Program} {F : Frm} {d : Option Tmp} {ty : TypeId} {pos : String} {aft : Array Edge} {g : Option (Nat × Bool)} {ρ : Operand → AV} {hp : List Blk} {K : AV → List Blk → Prop}
theorem lo_callG {f : FuncId} {y : Operand} {xs : List Operand} {ats : Array TypeId} {asq cap : List AV} {hs : List Blk} {R : AV → List Blk → Prop} (sel : List Nat) (hc : AG P f asq hs R) (hy : ∀ M u, RA M (ρ y) u → ∃ cs : List Value, u = .func (.func f) #[] cs.toArray ∧ RAs M cap cs) (hx : Res (xs.map ρ ++ cap) asq) (hsl : selB hp sel = some hs) (hf : freshB sel = true)
    (h : ∀ r hs2, R r hs2 → ∃ r', Re r r' ∧ sel.length ≤ hs2.length ∧ K r' (putB hp sel hs2)) : LO P F ⟨d, .call { callee := .value y, args := xs.toArray, argTypes := ats }, ty, pos, aft, g⟩ ρ hp K := by
  refine ⟨fun M e w he hh => ?_⟩
  obtain ⟨hE, hcall⟩ := hc
  have h1 := he y (by simp [Op.operands, Call.operands])
  obtain ⟨cs, hu, hcs⟩ := hy M _ h1
  rw [run_call hE hu]
  have hav := (ev_all xs (fun x hx => he x (by simp [Op.operands, Call.operands, hx]))).app hcs
  refine (hcall (subF M hs w hh.glob (sub_gx hh hsl)) M w _ (heap_sel hh hsl hf) (hx M _ hav)).mono ?_
  rintro e' w' ⟨v, r, hs2, M', rfl, hR, hM, hh2, hr⟩
  obtain ⟨r', hre, hl, hK⟩ := h r hs2 hR
  exact ⟨v, rfl, M', r', _, hK, hM.to (sub_may hh hsl), heap_put hh hsl hl hh2, hre M' v hr⟩
end
end Go.Proofs.Ytdogdjcjmhogmaa
namespace Go.Proofs.Ytdogdjcjmhogmaa
open Go.RowKit Go.Lib
def bytT (b : UInt8) : T := .lit (.int .u8 (b.toNat : Int))
def byts (l : List UInt8) : List T := l.map bytT
def bytRow (l : List UInt8) : T := .row l.length 1 (byts l)
end Go.Proofs.Ytdogdjcjmhogmaa
namespace Go.Proofs.Ytdogdjcjmhogmaa
open Go.RowKit
section
variable {L : Tab} {σ : AS}
theorem outsA_nil : OutsA L σ [] [] := by simp only [OutsA]
theorem outsA_cons {r : ResultVar} {rs : List ResultVar} {v : AV} {vs : List AV} (h : OutA L σ r v) (h' : OutsA L σ rs vs) : OutsA L σ (r :: rs) (v :: vs) := by simp only [OutsA]; exact ⟨v, vs, rfl, h, h'⟩
theorem outA_tmp {i : Nat} {v : AV} (h : fc (σ.tmps i) = some v) : OutA L σ (.tmp i) v := by simp only [OutA]; exact fc_eq h
theorem outA_agg {a ty i b off : Nat} {tb : TypeId} {cs l : List AV} {ti : TI} (h1 : σ.tmps a = .ptr i b off) (h2 : σ.hp[i]? = some (.box b tb cs)) (h3 : L.look ty = some ti) (h4 : ti.agg = true) (h5 : Nat.ble (off + ti.size) cs.length = true) (h6 : evl ((cs.drop off).take ti.size) = some l) : OutA L σ (.cell a ty) (.agg l) := by
  simp only [OutA]
  refine ⟨i, b, off, tb, cs, ti, h1, h2, h3, ?_⟩
  rw [h4]
  exact ⟨Nat.le_of_ble_eq_true h5, by rw [evl_eq h6]⟩
theorem outA_one {a ty i b off : Nat} {tb : TypeId} {cs : List AV} {v : AV} {ti : TI} (h1 : σ.tmps a = .ptr i b off) (h2 : σ.hp[i]? = some (.box b tb cs)) (h3 : L.look ty = some ti) (h4 : ti.agg = false) (h5 : cs[off]? = some v) : OutA L σ (.cell a ty) v := by
  simp only [OutA]
  refine ⟨i, b, off, tb, cs, ti, h1, h2, h3, ?_⟩
  rw [h4]
  exact h5
theorem zG {res : List ResultVar} {k : Nat} {R : AV → List Blk → Prop} {e : Exit} {vs : List AV} {hq : List Blk} (h : R (outA vs) hq) (he : e = .normal ∨ e = .ret := by first | exact .inl rfl | exact .inr rfl)
    (ho : OutsA L σ res vs := by repeat (first | exact outsA_nil | apply outsA_cons | (apply outA_tmp; (focus exact rfl)) | (apply outA_agg; (focus exact rfl); (focus exact rfl); (focus exact rfl); (focus exact rfl); (focus exact rfl); (focus exact rfl)) | (apply outA_one; (focus exact rfl); (focus exact rfl); (focus exact rfl); (focus exact rfl); (focus exact rfl))))
    (hh : evl (σ.hp.take k) = some hq := by exact rfl) : FinG L res k R e σ := ⟨he, vs, ho, by rw [← evl_eq hh]; exact h⟩
end
section
variable {P : Program} {F : Frm} {L : Tab} {d : Option Tmp} {ty : TypeId} {pos : String} {aft : Array Edge} {g : Option (Nat × Bool)} {ρ : Operand → AV} {hp : List Blk} {K : AV → List Blk → Prop}
theorem zCallG {f : FuncId} {y : Operand} {xs : List Operand} {ats : Array TypeId} {asq cap : List AV} {hs : List Blk} {R : AV → List Blk → Prop} (sel : List Nat) (hc : AG P f asq hs R)
    (h : ∀ r hs2, R r hs2 → ∃ r' hp', Re r r' ∧ Nat.ble sel.length hs2.length = true ∧ evl (putB hp sel hs2) = some hp' ∧ K r' hp') (hy : ρ y = .fn (.func f) cap := by exact rfl)
    (hx : Res (xs.map ρ ++ cap) asq := by repeat (first | exact res_nil | apply res_cons | exact re_own | exact re_ptr | exact re_refl | apply re_cls | exact rzs_nil | apply rzs_cons | exact rz_c | exact rz_nil rfl | apply rz_agg | apply rz_fn | apply rz_tup)) (hsl : selB hp sel = some hs := by exact rfl) (hf : freshB sel = true := by exact rfl) :
    LO P F ⟨d, .call { callee := .value y, args := xs.toArray, argTypes := ats }, ty, pos, aft, g⟩ ρ hp K :=
  lo_callG sel hc (fun M u hu => by rw [hy] at hu; simpa only [RA] using hu) hx hsl hf fun r hs2 hR => by
    obtain ⟨r', hp', h1, h2, h3, h4⟩ := h r hs2 hR
    exact ⟨r', h1, Nat.le_of_ble_eq_true h2, by rw [← evl_eq h3]; exact h4⟩
variable {t u e : TypeId} {x y : Operand} {ti tu te : TI} {cs : List T} {n i : Nat} {v : Value} {e' : TypeId}
end
end Go.Proofs.Ytdogdjcjmhogmaa
namespace Go.Proofs.Ytdogdjcjmhogmaa
open Go.RowKit
def bs (l : List UInt8) : ByteArray := ⟨l.toArray⟩
section
variable {P : Program} {F : Frm} {L : Tab} {d : Option Tmp} {ty : TypeId} {pos : String} {aft : Array Edge} {g : Option (Nat × Bool)} {ρ : Operand → AV} {hp : List Blk} {K : AV → List Blk → Prop}
theorem zBo {t el : TypeId} {ti te : TI} {n k : Nat} {parts : List (Nat × Operand)} {cs cs' : List AV} {ts : List T} {hp' : Value → List Blk} (h : ∀ v, K (.own k v) (hp' v)) (hL : TabOk P L := by exact tok) (ht : L.look t = some ti := by exact rfl) (hd : ti.d = .slice el := by exact rfl) (hte : L.look el = some te := by exact rfl) (h0 : Nat.ble 1 te.size = true := by exact rfl) (hn : Nat.ble (n * te.size) 16777216 = true := by exact rfl)
    (hf : fillA (fun i => some (i * te.size, te.size)) ((List.range (n * te.size)).map fun j => .c (.lit (te.zero.getD (j % te.size) undef))) (parts.map fun p => (p.1, ρ p.2)) = some cs := by exact rfl) (he : evl cs = some cs' := by exact rfl) (hz : Rzs [] cs' ts := by repeat (first | exact rzs_nil | apply rzs_cons | exact rz_c | exact rz_nil rfl | apply rz_agg | exact rz_own rfl | apply rz_fn | exact rz_ptr rfl | apply rz_tup)) (hk : lenU hp = some k := by exact rfl) (hq : ∀ v, evl (hp ++ [.row v el te.size n ts]) = some (hp' v) := by exact fun _ => rfl) :
    LO P F ⟨d, .buildSlice t n parts.toArray, ty, pos, aft, g⟩ ρ hp K := v_bslice_own hL ht hd hte h0 hn hf he hz hk hq h
end
end Go.Proofs.Ytdogdjcjmhogmaa
namespace Go.Proofs.Ytdogdjcjmhogmaa
open Go.RowKit
inductive Pl where
  | fin (r : List Nat)
  | fork (p : List Nat) (i : Nat) (a : Pl) (j : Nat) (b : Pl)
def Pl.n : Pl → Nat
  | .fin r => r.length
  | .fork p _ a _ _ => a.n + 1 + p.length
section
variable (P : Program) (F : Frm) (md : Region.Mode) (ops : Array Oper) (N : Nat) (cls : Nat → Nat)
def plB : Pl → Array Bool → Bool
  | .fin r, listed => ordB md ops cls r listed
  | .fork p i a j b, listed => ordP md ops cls p listed && decide (Region.ready md ops (lst p listed) = [i, j]) && plB a ((lst p listed).setIfInBounds i true) && plB b ((lst p listed).setIfInBounds j true) && Nat.beq a.n b.n
def WT (Kf : (Nat → AV) → List Blk → Prop) : Pl → (Nat → AV) → List Blk → Prop
  | .fin r, τ, hp => WO P F ops N cls Kf r τ hp
  | .fork p i a j b, τ, hp => WO P F ops N cls (fun τ hp => WO P F ops N cls (WT Kf a) [i] τ hp ∧ WO P F ops N cls (WT Kf b) [j] τ hp) p τ hp
end
section
variable {P : Program} {F : Frm} {md : Region.Mode} {ops : Array Oper} {N : Nat} {cls : Nat → Nat} {Kf : (Nat → AV) → List Blk → Prop} {τ : Nat → AV} {hp : List Blk}
theorem wt_fin {r : List Nat} (h : WO P F ops N cls Kf r τ hp) : WT P F ops N cls Kf (.fin r) τ hp := h
theorem wt_fork {p : List Nat} {i j : Nat} {a b : Pl} (h : WO P F ops N cls (fun τ hp => WO P F ops N cls (WT P F ops N cls Kf a) [i] τ hp ∧ WO P F ops N cls (WT P F ops N cls Kf b) [j] τ hp) p τ hp) : WT P F ops N cls Kf (.fork p i a j b) τ hp := h
theorem anyA_pl : ∀ (t : Pl) (listed : Array Bool) (τ : Nat → AV) (hp : List Blk), ClosedL md ops listed → plB md ops cls t listed = true → WT P F ops N cls Kf t τ hp → AnyA P F md ops N cls Kf t.n listed τ hp
  | .fin r, listed, τ, hp, hc, hB, h => anyA_ord r listed τ hp hc hB h
  | .fork p i a j b, listed, τ, hp, hc, hB, h => by
    simp only [plB, Bool.and_eq_true] at hB
    obtain ⟨⟨⟨⟨b1, b2⟩, b3⟩, b4⟩, b5⟩ := hB
    have hcl := ordP_closed p _ hc b1
    have hr := of_decide_eq_true b2
    refine anyA_pre (a.n + 1) p listed τ hp hc b1 (WO.mono p (fun τ' hp' h' => ?_) h)
    refine ⟨fun h0 => (by rw [hr] at h0; cases h0), fun k hk => ?_⟩
    have hk' := hk
    rw [hr] at hk'
    simp only [List.mem_cons, List.not_mem_nil, or_false] at hk'
    rcases hk' with rfl | rfl
    · exact opA_mono (fun τ' hp' h' => anyA_pl a _ τ' hp' (hcl.set hk) b3 h') h'.1
    · rw [Nat.eq_of_beq_eq_true b5]; exact opA_mono (fun τ' hp' h' => anyA_pl b _ τ' hp' (hcl.set hk) b4 h') h'.2
end
section
variable {P : Program} {F : Frm} {τ : Nat → AV} {hp : List Blk} {N : Nat} {Q : Exit → AS → Prop} {id : Nat} {l : List Oper}
theorem ac_drawT (c : List Nat) (t : Pl) (hm : P.follows .mixedOrders = true) (hB : (plB .any l.toArray (clsOf c) t (Array.replicate l.toArray.size false) && Nat.beq t.n l.length) = true)
    (h : WT P F l.toArray N (clsOf c) (fun τ' hp' => Q .normal ⟨τ', hp', N⟩) t τ hp) : AC P F (.region id l.toArray true) Q ⟨τ, hp, N⟩ := by
  refine ⟨fun M a w hr => ?_⟩
  simp only [Bool.and_eq_true] at hB
  have hlen := Nat.eq_of_beq_eq_true hB.2
  have hrd : Rep F M ⟨τ, hp, N⟩ a { w with drawn := w.drawn + 1 } := ⟨hr.tmps, hr.size, hr.defers, hr.heap.drew⟩
  have hcl : ClosedL .any l.toArray (Array.replicate l.toArray.size false) := fun j oj _ hl => by rw [getD_replicate_false] at hl; cases hl
  refine wp_region_any hm ?_
  have H := wpAny_of_A (Q := fun e a' w' => ∃ M' σ', Q e σ' ∧ Rep F M' σ' a' w') (fun M τ hp a w hk hr => ⟨M, _, hk, hr⟩) _ _ _ _ _ _ _ hrd (anyA_pl t _ τ hp hcl hB.1 h)
  rwa [hlen, show l.length = l.toArray.size by simp] at H
end
end Go.Proofs.Ytdogdjcjmhogmaa
namespace Go.Proofs.Ytdogdjcjmhogmaa
open Go.RowKit
theorem guard_slice {P : Program} {op : BinOp} {t : TypeId} {x y : Operand} {a b : Option Addr} {n c n' c' : Nat} (w : World) : (eqGuard op t x y (.slice a n c) (.slice b n' c')).run P w = .ok () w := by
  unfold eqGuard; simp
theorem run_nilS {P : Program} {t e : TypeId} (h : P.underlying t = some (.slice e)) (a : Option Addr) (n c : Nat) (w : World) : (Op.equal t (.slice a n c) (.slice none 0 0)).run P w = .ok a.isNone w := by
  rw [Op.equal, show Op.maxDepth = 9999 + 1 from rfl, Op.equalIn]
  simp only [Sem.run_bind, run_underlying h, Result.andThen_ok]
  cases a <;> rfl
section
variable {P : Program} {F : Frm} {L : Tab} {d : Option Tmp} {ty : TypeId} {pos : String} {aft : Array Edge} {g : Option (Nat × Bool)} {ρ : Operand → AV} {hp : List Blk} {K : AV → List Blk → Prop}
theorem zNs {t t' el : TypeId} {ti : TI} {x y : Operand} {n sz : Nat} {cs : List T} (h : ∀ b : Bool, (b = true → n = 0) → K (.c (.lit (.bool b))) hp) (hL : TabOk P L := by exact tok) (hx : ρ x = .c (.row n sz cs) := by exact rfl) (hy : ρ y = .c (.lit (.slice none 0 0)) := by exact rfl) (ht : L.look t = some ti := by exact rfl) (hd : ti.d = .slice el := by exact rfl) : LO P F ⟨d, .binOp .eql t x y t', ty, pos, aft, g⟩ ρ hp K := by
  refine ⟨fun M e w he hh => ?_⟩
  have h1 := he x (by first | (simp [Op.operands]; done) | simp [Op.operands, Call.operands])
  rw [hx] at h1
  have h2 := he y (by first | (simp [Op.operands]; done) | simp [Op.operands, Call.operands])
  rw [hy] at h2
  simp only [RA, RT] at h1 h2
  obtain ⟨A, c, xs, hu, hc, hn, h0, hl, hat, hrt⟩ := h1
  have hr : (execOp e ⟨d, .binOp .eql t x y t', ty, pos, aft, g⟩).run P w = .ok (.value (.bool A.isNone)) w := by
    simp [execOp, hu, h2, guard_slice, binOp, run_nilS (hL.slice ht hd)]
  rw [hr]
  refine ⟨M, _, hp, h A.isNone fun hb => ?_, Ext.refl _ _, hh, by simp only [RA, RT]⟩
  rcases Nat.eq_zero_or_pos n with h3 | h3
  · exact h3
  · obtain ⟨ad, rfl, _⟩ := hat h3
    cases hb
end
end Go.Proofs.Ytdogdjcjmhogmaa
namespace Go.Proofs.Ytdogdjcjmhogmaa
open Go.RowKit
section
variable {P : Program} {F : Frm} {L : Tab} {d : Option Tmp} {ty : TypeId} {pos : String} {aft : Array Edge} {g : Option (Nat × Bool)} {ρ : Operand → AV} {hp : List Blk} {K : AV → List Blk → Prop}
theorem own_turn {M : Mm} {w : World} (hh : HeapOk F M hp w) {i n n' sz : Nat} {v v' : Value} {e : TypeId} {cs cs' : List T} (hi : hp[i]? = some (.row v e sz n cs)) (hb : ∀ b, v'.ownBlock = some b → v.ownBlock = some b) (hx : BlkOk M w (.row v' e sz n' cs')) : HeapOk F M (hp.set i (.row v' e sz n' cs')) w := by
  refine hh.step i rfl rfl rfl (Nat.le_refl _) (fun _ _ _ => rfl) (Ext.refl _ _) (fun p v h1 h2 => by rw [h2] at h1; cases h1) (fun j hj => by rw [List.getElem?_set_ne (Ne.symm hj)]) (fun x' hx' => ?_)
  have hlt : i < hp.length := (List.getElem?_eq_some_iff.1 hi).1
  rw [List.getElem?_set_self hlt] at hx'
  obtain rfl : Blk.row v' e sz n' cs' = x' := by injection hx'
  exact ⟨hx, fun b hb' => .inl ⟨_, hi, hb b hb'⟩⟩
theorem lo_own_lo (hL : TabOk P L) {t el : TypeId} {ti te : TI} {x y : Operand} {i n sz : Nat} {v : Value} {e : TypeId} {cs : List T} {k : IntKind} {z : Int} (l : Nat) (hl : l ≤ n) (hx : ρ x = .own i v) (hi : hp[i]? = some (.row v e sz n cs)) (hy : ρ y = .c (.lit (.int k z))) (hz : z = (l : Int)) (ht : L.look t = some ti) (hd : ti.d = .slice el) (hte : L.look el = some te) (hsz : te.size = sz)
    (h : ∀ v', K (.own i v') (hp.set i (.row v' e sz (n - l) (cs.drop (l * sz))))) : LO P F ⟨d, .slice t x (some y) none none, ty, pos, aft, g⟩ ρ hp K := by
  refine ⟨fun M ev w he hh => ?_⟩
  have h1 := he x (by simp [Op.operands])
  rw [hx] at h1
  simp only [RA] at h1
  have h2 := he y (by simp [Op.operands])
  rw [hy] at h2
  simp only [RA, RT] at h2
  obtain ⟨xs, ho, hxs, hone, h0⟩ := hh.at_ i _ hi
  obtain ⟨A, c, rfl, hnc, hcm⟩ := ownO_shape ho
  subst hz
  have hb := run_sliceBound (P := P) (w := w) k (l : Int) n .sliceB (by omega) (by omega)
  have hr : (execOp ev ⟨d, .slice t x (some y) none none, ty, pos, aft, g⟩).run P w = .ok (.value (.slice (if c = l then A else A.map (·.add (l * sz))) (n - l) (c - l))) w := by
    simp [execOp, Instr.sliceAt, Instr.slice, Instr.sliceBounds, h1.1, h2, run_underlying (hL.slice ht hd), hL.sizeOf hte, hb, hsz]
  rw [hr]
  have hd := ho.drop hl
  refine ⟨M, _, _, h _, Ext.refl _ _, own_turn hh hi (fun b hb => ?_) ⟨_, hd, hxs.drop _, fun x hx => hone x (List.mem_of_mem_drop hx), h0⟩, by simp only [RA]; exact ⟨trivial, own_oneO hd⟩⟩
  cases A with
  | none => split at hb <;> simp [Value.ownBlock] at hb
  | some ad =>
    split at hb
    · exact hb
    · simpa [Value.ownBlock, add_block] using hb
end
end Go.Proofs.Ytdogdjcjmhogmaa
namespace Go.Proofs.Ytdogdjcjmhogmaa
open Go.RowKit
section
variable {P : Program} {F : Frm} {Q : Exit → AS → Prop} {τ : Nat → AV} {hp : List Blk} {N : Nat}
/-- what a slot holds, said otherwise -/
theorem wk_as (s : Nat) (v : AV) (h : ∀ M u, RA M (τ s) u → RA M v u) : Wk F ⟨τ, hp, N⟩ ⟨upd N s v τ, hp, N⟩ := by
  intro M a w hr
  refine ⟨M, fun i => ?_, hr.size, hr.defers, hr.heap⟩
  have := hr.tmps i
  simp only [upd] at this ⊢
  cases hc : Nat.beq i s with
  | false => simp only [Bool.false_and, cond_false]; exact this
  | true =>
    obtain rfl := Nat.eq_of_beq_eq_true hc
    cases hN : Nat.blt i N with
    | false => simp only [Bool.and_false, cond_false]; exact this
    | true => simp only [Bool.and_true, cond_true]; exact h M _ this
theorem x_as {c : Go.Code} (s : Nat) (v : AV) (h : ∀ M u, RA M (τ s) u → RA M v u) (hq : AC P F c Q ⟨upd N s v τ, hp, N⟩) : AC P F c Q ⟨τ, hp, N⟩ := ac_wk (wk_as s v h) hq
end
theorem drop_flat {α β : Type} {f : α → List β} {sz : Nat} (hf : ∀ a, (f a).length = sz) : ∀ (m : Nat) (l : List α), (l.flatMap f).drop (m * sz) = (l.drop m).flatMap f
  | 0, l => by simp
  | m + 1, [] => by simp
  | m + 1, a :: l => by
    rw [List.flatMap_cons, List.drop_succ_cons, ← drop_flat hf m l, show (m + 1) * sz = (f a).length + m * sz by rw [hf a, Nat.succ_mul]; omega, List.drop_length_add_append]
theorem take_flat {α β : Type} {f : α → List β} {sz : Nat} (hf : ∀ a, (f a).length = sz) : ∀ (m : Nat) (l : List α), (l.flatMap f).take (m * sz) = (l.take m).flatMap f
  | 0, l => by simp
  | m + 1, [] => by simp
  | m + 1, a :: l => by
    rw [List.flatMap_cons, List.take_succ_cons, List.flatMap_cons, ← take_flat hf m l, show (m + 1) * sz = (f a).length + m * sz by rw [hf a, Nat.succ_mul]; omega, List.take_length_add_append]
theorem len_flat {α β : Type} {f : α → List β} {sz : Nat} (hf : ∀ a, (f a).length = sz) (l : List α) : (l.flatMap f).length = l.length * sz := by
  induction l with
  | nil => simp
  | cons a l ih => rw [List.flatMap_cons, List.length_append, ih, hf a, List.length_cons, Nat.succ_mul]; omega
section
variable {P : Program} {L : Tab} {F : Frm} {d : Option Tmp} {ty : TypeId} {pos : String} {aft : Array Edge} {g : Option (Nat × Bool)} {ρ : Operand → AV} {hp : List Blk} {K : AV → List Blk → Prop}
theorem zPlf {α : Type} {f : α → List T} {l : List α} {t el : TypeId} {ti te : TI} {x y : Operand} {sz : Nat} {k : IntKind} {z : Int} (m : Nat) (hm : m ≤ l.length) (hf : ∀ a, (f a).length = sz) (hK : K (.c (.row (l.drop m).length sz ((l.drop m).flatMap f))) hp) (hz : z = (m : Int) := by exact rfl) (hL : TabOk P L := by exact tok) (hx : ρ x = .c (.row l.length sz (l.flatMap f)) := by exact rfl) (hy : ρ y = .c (.lit (.int k z)) := by exact rfl) (ht : L.look t = some ti := by exact rfl) (hd : ti.d = .slice el := by exact rfl) (hte : L.look el = some te := by exact rfl) (hsz : te.size = sz := by exact rfl) :
    LO P F ⟨d, .slice t x (some y) none none, ty, pos, aft, g⟩ ρ hp K := by
  refine lo_part_lo hL m hm hx hy hz ht hd hte hsz ?_
  rw [drop_flat hf m l, List.take_of_length_le (by rw [len_flat hf, List.length_drop]; exact Nat.le_refl _), ← List.length_drop]
  exact hK
theorem zPhf {α : Type} {f : α → List T} {l : List α} {t el : TypeId} {ti te : TI} {x y : Operand} {sz : Nat} {k : IntKind} {z : Int} (m : Nat) (hm : m ≤ l.length) (hf : ∀ a, (f a).length = sz) (hK : K (.c (.row (l.take m).length sz ((l.take m).flatMap f))) hp) (hz : z = (m : Int) := by exact rfl) (hL : TabOk P L := by exact tok) (hx : ρ x = .c (.row l.length sz (l.flatMap f)) := by exact rfl) (hy : ρ y = .c (.lit (.int k z)) := by exact rfl) (ht : L.look t = some ti := by exact rfl) (hd : ti.d = .slice el := by exact rfl) (hte : L.look el = some te := by exact rfl) (hsz : te.size = sz := by exact rfl) :
    LO P F ⟨d, .slice t x none (some y) none, ty, pos, aft, g⟩ ρ hp K := by
  refine lo_part_hi hL m hm hx hy hz ht hd hte hsz ?_
  rw [take_flat hf m l]
  have h : (l.take m).length = m := by rw [List.length_take]; omega
  rw [h] at hK
  exact hK
end
end Go.Proofs.Ytdogdjcjmhogmaa
namespace Go.Proofs.Ytdogdjcjmhogmaa
open Go.RowKit
section
variable {md : Region.Mode} {ops : Array Oper} {cls : Nat → Nat}
/-- m says, bit by bit, for whom each operation waits -/
def claimB (md : Region.Mode) (ops : Array Oper) (m : List Nat) : Bool :=
  (List.range ops.size).all fun j => (List.range ops.size).all fun i => !(m.getD j 0).testBit i ||
    (match ops[j]? with
      | some oj => oj.after.any fun e => Region.binds md e && (e.on == i || (Nat.blt e.on j && (m.getD e.on 0).testBit i))
      | none => false)
theorem claim_reach {m : List Nat} (h : claimB md ops m = true) {i : Nat} (hi : i < ops.size) : ∀ (f j : Nat), j < f → j < ops.size → (m.getD j 0).testBit i = true → reachB md ops f j i = true
  | 0, _, h0, _, _ => by omega
  | f + 1, j, hf, hj, hb => by
    have h1 := List.all_eq_true.1 (List.all_eq_true.1 h j (List.mem_range.2 hj)) i (List.mem_range.2 hi)
    rw [hb] at h1
    simp only [Bool.not_true, Bool.false_or] at h1
    unfold reachB
    split at h1
    · rename_i oj hoj
      rw [hoj]
      obtain ⟨e, he, hq⟩ := Array.any_eq_true'.1 h1
      refine Array.any_eq_true'.2 ⟨e, he, ?_⟩
      simp only [Bool.and_eq_true, Bool.or_eq_true, beq_iff_eq] at hq ⊢
      refine ⟨hq.1, hq.2.imp id fun h2 => ?_⟩
      have hlt : e.on < j := by simpa using h2.1
      exact claim_reach h hi f e.on (by omega) (by omega) h2.2
    · cases h1
def freeC (ops : Array Oper) (cls : Nat → Nat) (m : List Nat) (listed : Array Bool) (i : Nat) : Bool :=
  match ops[i]? with
  | none => false
  | some oi => (List.range ops.size).all fun j => j == i || listed.getD j true || (m.getD j 0).testBit i ||
      (match ops[j]? with | some oj => oi.apart ops oj && (cls j != 2 || cls i == 0) | none => true)
theorem freeC_A {m : List Nat} (h : claimB md ops m = true) {listed : Array Bool} {i : Nat} (hf : freeC ops cls m listed i = true) : freeA md ops cls listed i = true := by
  unfold freeC at hf
  unfold freeA
  split at hf
  · cases hf
  · rename_i oi hoi
    rw [hoi]
    refine List.all_eq_true.2 fun j hj => ?_
    have h1 := List.all_eq_true.1 hf j hj
    simp only [Bool.or_eq_true] at h1 ⊢
    rcases h1 with ((h1 | h1) | h1) | h1
    · exact .inl (.inl (.inl h1))
    · exact .inl (.inl (.inr h1))
    · exact .inl (.inr (claim_reach h (Array.getElem?_eq_some_iff.1 hoi).1 _ j (List.mem_range.1 hj) (List.mem_range.1 hj) h1))
    · exact .inr h1
def ordC (md : Region.Mode) (ops : Array Oper) (cls : Nat → Nat) (m : List Nat) : List Nat → Array Bool → Bool
  | [], listed => (Region.ready md ops listed).isEmpty
  | i :: r, listed => (if 2 ≤ cls i then decide (Region.ready md ops listed = [i]) else (Region.ready md ops listed).contains i && freeC ops cls m listed i) && ordC md ops cls m r (listed.setIfInBounds i true)
theorem ordC_B {m : List Nat} (h : claimB md ops m = true) : ∀ (r : List Nat) (listed : Array Bool), ordC md ops cls m r listed = true → ordB md ops cls r listed = true
  | [], listed, ho => ho
  | i :: r, listed, ho => by
    simp only [ordC, ordB, Bool.and_eq_true] at ho ⊢
    refine ⟨?_, ordC_B h r _ ho.2⟩
    by_cases h2 : 2 ≤ cls i
    · rw [if_pos h2] at ho ⊢; exact ho.1
    · rw [if_neg h2] at ho ⊢
      have h3 := ho.1
      simp only [Bool.and_eq_true] at h3 ⊢
      exact ⟨h3.1, freeC_A h h3.2⟩
end
section
variable {P : Program} {F : Frm} {τ : Nat → AV} {hp : List Blk} {N : Nat} {Q : Exit → AS → Prop} {id : Nat} {l : List Oper}
theorem ac_drawB (m c r : List Nat) (hm : P.follows .mixedOrders = true) (hB : (claimB .any l.toArray m && (ordC .any l.toArray (clsOf c) m r (Array.replicate l.toArray.size false) && Nat.beq r.length l.length)) = true)
    (h : WO P F l.toArray N (clsOf c) (fun τ' hp' => Q .normal ⟨τ', hp', N⟩) r τ hp) : AC P F (.region id l.toArray true) Q ⟨τ, hp, N⟩ := by
  simp only [Bool.and_eq_true] at hB
  refine ac_draw c r hm ?_ h
  simp only [Bool.and_eq_true]
  exact ⟨ordC_B hB.1 _ _ hB.2.1, hB.2.2⟩
/-- of the slots only those of l are kept -/
theorem wk_keep {l : List (Nat × AV)} (hl : HasT τ l) : Wk F ⟨τ, hp, N⟩ ⟨atT (fun _ => .junk) [] l, hp, N⟩ := by
  intro M a w hr
  refine ⟨M, fun i => ?_, hr.size, hr.defers, hr.heap⟩
  have h0 := hr.tmps i
  dsimp only at h0 ⊢
  have key : ∀ (l : List (Nat × AV)) (v : AV), HasT τ l → lkp i l = some v → τ i = v := by
    intro l
    induction l with
    | nil => intro v _ h; cases h
    | cons p l ih =>
      obtain ⟨d, u⟩ := p
      intro v hh h
      unfold lkp at h
      cases hc : Nat.beq i d with
      | true =>
        rw [hc] at h
        simp only [cond_true, Option.some.injEq] at h
        rw [Nat.eq_of_beq_eq_true hc, hh.1, h]
      | false =>
        rw [hc] at h
        exact ih v hh.2 h
  unfold atT
  split
  · rename_i v hv
    rw [← key l v hl hv]
    exact h0
  · cases memB i [] <;> simp only [cond, RA]
theorem x_keep {c : Go.Code} (l : List (Nat × AV)) (hl : HasT τ l) (hq : AC P F c Q ⟨atT (fun _ => .junk) [] l, hp, N⟩) : AC P F c Q ⟨τ, hp, N⟩ := ac_wk (wk_keep hl) hq
end
end Go.Proofs.Ytdogdjcjmhogmaa
namespace Go.Proofs.Ytdogdjcjmhogmaa
open Go.RowKit
theorem lits_rt (M : Mm) : ∀ l : List Value, RTs M (l.map T.lit) l
  | [] => by simp only [List.map_nil, RTs]
  | v :: l => by simp only [List.map_cons, RTs]; exact ⟨v, l, rfl, by simp only [RT], lits_rt M l⟩
end Go.Proofs.Ytdogdjcjmhogmaa
namespace Go.Proofs.Ytdogdjcjmhogmaa
open Go.RowKit
theorem lits_rts (M : Mm) (l : List Value) : RTs M (l.map fun v => T.lit v) l := lits_rt M l
end Go.Proofs.Ytdogdjcjmhogmaa
namespace Go.Proofs.Ytdogdjcjmhogmaa
open Go.RowKit
theorem TabOk.array {P : Program} {L : Tab} (hL : TabOk P L) {t e : TypeId} {n : Nat} {i : TI} (h : L.look t = some i) (hd : i.d = .array n e) : P.underlying t = some (.array n e) := by
  obtain ⟨d, h1, h2⟩ := hL.desc h
  rw [hd] at h2
  cases d <;> simp [descB] at h2
  rw [h1, h2.1, h2.2]
section
variable {P : Program} {F : Frm} {L : Tab} {d : Option Tmp} {ty : TypeId} {pos : String} {aft : Array Edge} {g : Option (Nat × Bool)} {ρ : Operand → AV} {hp : List Blk} {K : AV → List Blk → Prop}
theorem lo_build_arr (hL : TabOk P L) {t el : TypeId} {ti te : TI} {n : Nat} {parts : List (Nat × Operand)} {cs : List AV} (ht : L.look t = some ti) (hd : ti.d = .array n el) (hte : L.look el = some te) (hf : fillA (fun i => some (i * te.size, te.size)) (ti.zero.map fun v => .c (.lit v)) (parts.map fun p => (p.1, ρ p.2)) = some cs) (h : K (.agg cs) hp) : LO P F ⟨d, .build t parts.toArray, ty, pos, aft, g⟩ ρ hp K := by
  refine LO.same (fun M e w he hh => ?_) h
  obtain ⟨z, hz, hzc, _, hone⟩ := hL.zero ht
  obtain ⟨ys, g1, g2, _, _⟩ := fill_sound (pl' := fun i => some (i * te.size, te.size)) (fun i p hp => hp) (fun p hp => he p.2 (by simp only [Op.operands]; exact List.mem_map.2 ⟨p, by simpa using hp, rfl⟩)) (RAs.lits (M := M) ti.zero) hone hf
  refine ⟨.agg ys.toArray, ?_, by simp only [RA]; exact ⟨ys, rfl, g2⟩⟩
  have hz' : z.cells = ti.zero.toArray := by rw [← hzc]
  simp only [execOp, Instr.build, Sem.run_bind, hz, run_underlying (hL.array ht hd), Result.andThen_ok, hL.sizeOf hte, hz']
  simp only [List.map_toArray]
  rw [show (fun x : Nat × Operand => match x with | (i, x) => (i, e x)) = (fun p : Nat × Operand => (p.1, e p.2)) from rfl]
  rw [g1]
  rfl
theorem zBda {t el : TypeId} {ti te : TI} {n : Nat} {parts : List (Nat × Operand)} {cs cs' : List AV} (h : K (.agg cs') hp) (hL : TabOk P L := by exact tok) (ht : L.look t = some ti := by exact rfl) (hd : ti.d = .array n el := by exact rfl) (hte : L.look el = some te := by exact rfl) (hf : fillA (fun i => some (i * te.size, te.size)) (ti.zero.map fun v => .c (.lit v)) (parts.map fun p => (p.1, ρ p.2)) = some cs := by exact rfl) (he : evl cs = some cs' := by exact rfl) : LO P F ⟨d, .build t parts.toArray, ty, pos, aft, g⟩ ρ hp K :=
  lo_build_arr hL ht hd hte hf (by rw [← evl_eq he]; exact h)
end
end Go.Proofs.Ytdogdjcjmhogmaa
namespace Go.Proofs.Ytdogdjcjmhogmaa
open Go.RowKit
inductive Pt where
  | fin (r : List Nat)
  | fork (p : List Nat) (i : Nat) (a : Pt) (j : Nat) (b : Pt)
  | fork3 (p : List Nat) (i : Nat) (a : Pt) (j : Nat) (b : Pt) (k : Nat) (c : Pt)
  | fork4 (p : List Nat) (i : Nat) (a : Pt) (j : Nat) (b : Pt) (k : Nat) (c : Pt) (m : Nat) (d : Pt)
def Pt.n : Pt → Nat
  | .fin r => r.length
  | .fork p _ a _ _ => a.n + 1 + p.length
  | .fork3 p _ a _ _ _ _ => a.n + 1 + p.length
  | .fork4 p _ a _ _ _ _ _ _ => a.n + 1 + p.length
section
variable {P : Program} {F : Frm} {τ : Nat → AV} {hp : List Blk} {N : Nat} {Q : Exit → AS → Prop}
/-- where a row of the call's own has elements, it has an address -/
theorem x_row {c : Go.Code} (i : Nat) {v : Value} {e : TypeId} {sz n : Nat} {cs : List T} (hi : hp[i]? = some (.row v e sz n cs)) (hn : 0 < n) (h : (∃ ad m, v = .slice (some ad) n m) → AC P F c Q ⟨τ, hp, N⟩) : AC P F c Q ⟨τ, hp, N⟩ := by
  refine ⟨fun M a w hr => (h ?_).out M a w hr⟩
  obtain ⟨xs, ho, _⟩ := hr.heap.at_ i _ hi
  obtain ⟨A, c, rfl, _⟩ := ownO_shape ho
  obtain ⟨ad, rfl⟩ := ho.some_ (by omega)
  exact ⟨ad, c, rfl⟩
end
section
variable {P : Program} {F : Frm} {L : Tab} {d : Option Tmp} {ty : TypeId} {pos : String} {aft : Array Edge} {g : Option (Nat × Bool)} {ρ : Operand → AV} {hp : List Blk} {K : AV → List Blk → Prop}
/-- an index into a row of the call's own that has an address: no block is looked at -/
theorem zIxp {t el : TypeId} {ti te : TI} {x y : Operand} {i n sz : Nat} {v : Value} {k : IntKind} {z : Int} (j : Nat) (hv : ∃ ad m, v = .slice (some ad) n m) (hj : j < n) (h : K (.eptr i v (j * sz)) hp) (hz : z = (j : Int) := by exact rfl) (hL : TabOk P L := by exact tok) (hx : ρ x = .own i v := by exact rfl) (hy : ρ y = .c (.lit (.int k z)) := by exact rfl) (ht : L.look t = some ti := by exact rfl) (hd : ti.d = .slice el := by exact rfl) (hte : L.look el = some te := by exact rfl) (hsz : te.size = sz := by exact rfl) : LO P F ⟨d, .indexAddr t x y, ty, pos, aft, g⟩ ρ hp K := by
  refine LO.same (fun M e w he hh => ?_) h
  have h1 := he x (by first | (simp [Op.operands]; done) | simp [Op.operands, Call.operands])
  rw [hx] at h1
  simp only [RA] at h1
  obtain ⟨ad, c, rfl⟩ := hv
  have h2 := he y (by first | (simp [Op.operands]; done) | simp [Op.operands, Call.operands])
  rw [hy] at h2
  simp only [RA, RT] at h2
  refine ⟨.pointer (some (Addr.add ad (j * sz))), ?_, by simp only [RA]; exact ⟨_, _, _, rfl, rfl⟩⟩
  subst hz
  simp [execOp, Instr.indexAt, h1.1, h2, asIntOf, run_underlying (hL.slice ht hd), hL.sizeOf hte, hsz, hj]
end
end Go.Proofs.Ytdogdjcjmhogmaa
namespace Go.Proofs.Ytdogdjcjmhogmaa
open Go.RowKit
section
variable {P : Program} {F : Frm} {L : Tab} {d : Option Tmp} {ty : TypeId} {pos : String} {aft : Array Edge} {g : Option (Nat × Bool)} {ρ : Operand → AV} {hp : List Blk} {K : AV → List Blk → Prop}
theorem lo_eqbr {t t' : TypeId} {x y : Operand} {a b r : Bool} (hr : decide (a = b) = r) (h : K (.c (.lit (.bool r))) hp) (hx : ρ x = .c (.lit (.bool a)) := by exact rfl) (hy : ρ y = .c (.lit (.bool b)) := by exact rfl) (hu : isBool P t = true := by kernel_rfl) : LO P F ⟨d, .binOp .eql t x y t', ty, pos, aft, g⟩ ρ hp K :=
  zB5 (hr ▸ h) hx hy hu
end
end Go.Proofs.Ytdogdjcjmhogmaa
namespace Go.Proofs.Ytdogdjcjmhogmaa
open Go.RowKit
theorem heap_pick {F : Frm} {M : Mm} {hp hs : List Blk} {w : World} {sel : List Nat} (h : HeapOk F M hp w) (hs' : selB hp sel = some hs) (hf : freshB sel = true) : HeapOk F M hs w := by
  refine ⟨h.mem, h.ext, h.frm, fun i x hx => ?_, fun i j x y b hx hy hxb hyb => ?_, fun i x b hx hxb => ?_⟩
  · obtain ⟨j, _, h2⟩ := selB_get hs' hx
    exact h.at_ j x h2
  · obtain ⟨k, h1, h2⟩ := selB_get hs' hx
    obtain ⟨k', h3, h4⟩ := selB_get hs' hy
    have := h.sep k k' x y b h2 h4 hxb hyb
    subst this
    exact freshB_inj hf h1 h3
  · obtain ⟨j, _, h2⟩ := selB_get hs' hx
    exact h.out j x b h2 hxb
section
variable {P : Program} {F : Frm} {τ : Nat → AV} {hp hs : List Blk} {N : Nat} {Q : Exit → AS → Prop}
theorem wk_pick (sel : List Nat) (hs' : selB hp sel = some hs) (hf : freshB sel = true) : Wk F ⟨τ, hp, N⟩ ⟨τ, hs, N⟩ := by
  intro M a w hr
  exact ⟨M, hr.tmps, hr.size, hr.defers, heap_pick hr.heap hs' hf⟩
theorem x_pick {c : Go.Code} (sel : List Nat) (hq : AC P F c Q ⟨τ, hs, N⟩) (hs' : selB hp sel = some hs := by exact rfl) (hf : freshB sel = true := by exact rfl) : AC P F c Q ⟨τ, hp, N⟩ := ac_wk (wk_pick sel hs' hf) hq
end
end Go.Proofs.Ytdogdjcjmhogmaa
namespace Go.Proofs.Ytdogdjcjmhogmaa
open Go.RowKit
theorem putB_same : ∀ {hp : List Blk} {sel : List Nat} {hs : List Blk}, selB hp sel = some hs → putB hp sel hs = hp
  | hp, [], hs, h => by simp only [selB, Option.some.injEq] at h; subst h; simp [putB]
  | hp, k :: is, hs, h => by
    simp only [selB] at h
    split at h
    · next x r hx hr =>
      simp only [Option.some.injEq] at h
      subst h
      rw [putB, putB_same hr]
      obtain ⟨h1, rfl⟩ := List.getElem?_eq_some_iff.1 hx
      exact List.set_getElem_self h1
    · cases h
theorem selB_len : ∀ {hp : List Blk} {sel : List Nat} {hs : List Blk}, selB hp sel = some hs → sel.length = hs.length
  | hp, [], hs, h => by simp only [selB, Option.some.injEq] at h; subst h; rfl
  | hp, k :: is, hs, h => by
    simp only [selB] at h
    split at h
    · next x r hx hr =>
      simp only [Option.some.injEq] at h
      subst h
      rw [List.length_cons, List.length_cons, selB_len hr]
    · cases h
theorem re_agg {asq bs : List AV} (h : Res asq bs) : Re (.agg asq) (.agg bs) := fun M u hu => by
  simp only [RA] at hu ⊢
  obtain ⟨xs, e, h1⟩ := hu
  exact ⟨xs, e, h M _ h1⟩
section
variable {P : Program} {F : Frm} {d : Option Tmp} {ty : TypeId} {pos : String} {aft : Array Edge} {g : Option (Nat × Bool)} {ρ : Operand → AV} {hp : List Blk} {K : AV → List Blk → Prop}
theorem zCallR {f : FuncId} {y : Operand} {xs : List Operand} {ats : Array TypeId} {asq cap : List AV} {hs : List Blk} {R : AV → List Blk → Prop} {t : AV} (sel : List Nat) (hc : AG P f asq hs R) (hR : ∀ r hs2, R r hs2 → r = t ∧ hs2 = hs) (h : K t hp) (hy : ρ y = .fn (.func f) cap := by exact rfl)
    (hx : Res (xs.map ρ ++ cap) asq := by repeat (first | exact res_nil | apply res_cons | exact re_own | exact re_ptr | exact re_refl | apply re_agg | apply re_cls | exact rzs_nil | apply rzs_cons | exact rz_c | exact rz_nil rfl | apply rz_agg | apply rz_fn | apply rz_tup)) (hsl : selB hp sel = some hs := by exact rfl) (hf : freshB sel = true := by exact rfl) :
    LO P F ⟨d, .call { callee := .value y, args := xs.toArray, argTypes := ats }, ty, pos, aft, g⟩ ρ hp K :=
  lo_callG sel hc (fun M u hu => by rw [hy] at hu; simpa only [RA] using hu) hx hsl hf fun r hs2 hR' => by
    obtain ⟨rfl, rfl⟩ := hR r hs2 hR'
    exact ⟨_, re_refl, Nat.le_of_eq (selB_len hsl), by rw [putB_same hsl]; exact h⟩
end
end Go.Proofs.Ytdogdjcjmhogmaa
namespace Go.Proofs.Ytdogdjcjmhogmaa
open Go.RowKit
theorem leftOf_mem {l : List MapEntry} {seen : Array Nat} {e : MapEntry} (h : e ∈ (leftOf l.toArray seen).toList) : e ∈ l ∧ e.born ∉ seen.toList := by
  have h1 := mem_left h
  refine ⟨by simpa using h1.1, ?_⟩
  have := h1.2
  rw [Array.contains_eq_mem, decide_eq_false_iff_not] at this
  simpa using this
theorem leftOf_none {l : List MapEntry} {seen : Array Nat} (h : (leftOf l.toArray seen).size = 0) : ∀ e ∈ l, e.born ∈ seen.toList := by
  intro e he
  have h1 : leftOf l.toArray seen = #[] := Array.eq_empty_of_size_eq_zero h
  unfold leftOf at h1
  rw [Array.filter_eq_empty_iff] at h1
  have := h1 e (by simpa using he)
  simpa using this
theorem nodup_map_inj {α β : Type} {f : α → β} : ∀ {l : List α} (_ : (l.map f).Nodup) {i j : Nat} (hi : i < l.length) (hj : j < l.length), f l[i] = f l[j] → i = j := by
  intro l h i j hi hj he
  have hp : (l.map f).Pairwise (· ≠ ·) := h
  have hg := List.pairwise_iff_getElem.1 hp
  rcases Nat.lt_trichotomy i j with hl | hl | hl
  · exact absurd (by rw [List.getElem_map, List.getElem_map]; exact he) (hg i j (by simpa using hi) (by simpa using hj) hl)
  · exact hl
  · exact absurd (by rw [List.getElem_map, List.getElem_map]; exact he.symm) (hg j i (by simpa using hj) (by simpa using hi) hl)
def mdel {α : Type} [DecidableEq α] (k : α) : List (α × T) → List (α × T)
  | [] => []
  | (k', t) :: l => if k = k' then l else (k', t) :: mdel k l
section
variable {P : Program} {F : Frm} {d : Option Tmp} {ty : TypeId} {pos : String} {aft : Array Edge} {g : Option (Nat × Bool)} {ρ : Operand → AV} {hp : List Blk} {K : AV → List Blk → Prop}
theorem lo_range {xT kT eT : TypeId} {x : Operand} {i b : Nat} {es : List (Value × T)} (hu : P.underlying xT = some (.map kT eT)) (hx : ρ x = .own i (.map (some b))) (hi : hp[i]? = some (.mp b es))
    (h : ∀ b' st c, st.length = es.length → K (.ptr hp.length b' 0) (hp.set i (.mpx b es (some (st, c))) ++ [.it b' b st c []])) : LO P F ⟨d, .range xT x, ty, pos, aft, g⟩ ρ hp K := by
  refine ⟨fun M e w he hh => ?_⟩
  have h1 := he x (by first | (simp [Op.operands]; done) | simp [Op.operands, Call.operands])
  rw [hx] at h1
  simp only [RA] at h1
  obtain ⟨es', clock, hb, hkeys, hvals, hstm, hst⟩ := hh.at_ i _ hi
  have hlen : es'.length = es.length := by simpa using congrArg List.length hkeys
  have hrun := run_range_map (P := P) w xT kT eT b es'.toArray clock hu hb
  have hil : i < hp.length := (List.getElem?_eq_some_iff.1 hi).1
  have hh2 : HeapOk F M (hp.set i (.mpx b es (some (es'.map (·.born), clock)))) w := by
    have hg : ∀ (j : Nat) (x : Blk), (hp.set i (.mpx b es (some (es'.map (·.born), clock))))[j]? = some x → ∃ y, hp[j]? = some y ∧ x.blk = y.blk ∧ BlkOk M w x := by
      intro j x hj
      by_cases hij : i = j
      · subst hij
        rw [List.getElem?_set_self hil] at hj
        obtain rfl : _ = x := by injection hj
        exact ⟨_, hi, rfl, ⟨es', clock, hb, hkeys, hvals, hstm, fun s hs => by simpa using hs.symm⟩⟩
      · rw [List.getElem?_set_ne hij] at hj
        exact ⟨x, hj, rfl, hh.at_ j x hj⟩
    refine ⟨hh.mem, hh.ext, hh.frm, fun j x hj => (hg j x hj).choose_spec.2.2, fun j k x y q hj hk hx hy => ?_, fun j x q hj hq => ?_⟩
    · obtain ⟨x', h3, h4, -⟩ := hg j x hj
      obtain ⟨y', h5, h6, -⟩ := hg k y hk
      exact hh.sep j k x' y' q h3 h5 (by rw [← h4]; exact hx) (by rw [← h6]; exact hy)
    · obtain ⟨x', h3, h4, -⟩ := hg j x hj
      exact hh.out j x' q h3 (by rw [← h4]; exact hq)
  have hrun2 : (execOp e ⟨d, .range xT x, ty, pos, aft, g⟩).run P w = .ok (.value (.pointer (some ⟨w.heap.size, 0, none⟩))) (w.alloc (.mapIter (some b) clock #[] clock)) := by
    simp [execOp, h1.1, hrun]
  rw [hrun2]
  have hk := h w.heap.size (es'.map (·.born)) clock (by simpa using hlen)
  refine ⟨M, _, _, hk, Ext.refl _ _, ?_, by simp only [RA]⟩
  have hl2 : (hp.set i (.mpx b es (some (es'.map (·.born), clock)))).length = hp.length := List.length_set
  refine hh2.step hp.length rfl rfl rfl (by simp) (fun b hb _ => Below.heap_alloc _ _ _ hb) (Ext.refl _ _) (fun p v h1 h2 => by rw [h2] at h1; cases h1) (fun j hj => ?_) (fun x' hx' => ?_)
  · rcases Nat.lt_or_ge j hp.length with h | h
    · rw [List.getElem?_append_left (by rw [hl2]; exact h)]
    · rw [List.getElem?_eq_none (by rw [List.length_append, hl2]; simp only [List.length_cons, List.length_nil]; omega), List.getElem?_eq_none (by rw [hl2]; omega)]
  · rw [List.getElem?_append_right (by rw [hl2]; exact Nat.le_refl _), hl2] at hx'
    obtain rfl : _ = x' := by simpa using hx'
    refine ⟨⟨heap_alloc_new w _, fun p hp => by cases hp⟩, fun q hq => .inr ?_⟩
    obtain rfl : w.heap.size = q := by simpa [Blk.blk] using hq
    refine ⟨Nat.le_refl _, fun p hp => ?_⟩
    cases hc : M p with
    | none => rfl
    | some v => have := World.block_lt_of_cell? w p (hh.mem p v hc).1; omega
theorem lo_next {x : Operand} {i j b b' c : Nat} {es : List (Value × T)} {st P' : List Nat} (hx : ρ x = .ptr i b' 0) (hi : hp[i]? = some (.it b' b st c P')) (hj : hp[j]? = some (.mpx b es (some (st, c))))
    (hdone : (∀ k, k < es.length → k ∈ P') → K (.c (.tup [.lit (.bool false)])) hp)
    (hmore : ∀ (k : Nat) (u : Value) (t : T), es[k]? = some (u, t) → k ∉ P' → K (.c (.tup [.lit (.bool true), .lit u, t])) (hp.set i (.it b' b st c (P' ++ [k])))) : LO P F ⟨d, .next x false, ty, pos, aft, g⟩ ρ hp K := by
  refine ⟨fun M e w he hh => ?_⟩
  have h1 := he x (by first | (simp [Op.operands]; done) | simp [Op.operands, Call.operands])
  rw [hx] at h1
  simp only [RA] at h1
  obtain ⟨es', clock, hb, hkeys, hvals, hstm, hst⟩ := hh.at_ j _ hj
  obtain ⟨hst1, rfl⟩ : st = es'.map (·.born) ∧ c = clock := by
    have := hst (st, c) rfl
    exact ⟨congrArg Prod.fst this, congrArg Prod.snd this⟩
  obtain ⟨hit, hPl⟩ : w.heap[b']? = some (.mapIter (some b) c (P'.map fun p => st.getD p 0).toArray c) ∧ ∀ p ∈ P', p < st.length := hh.at_ i _ hi
  have hlen : es'.length = es.length := by simpa using congrArg List.length hkeys
  have hil : i < hp.length := (List.getElem?_eq_some_iff.1 hi).1
  have hbl : b' < w.heap.size := (Array.getElem?_eq_some_iff.1 hit).1
  -- the step, told of any world
  have key : ((∀ e ∈ es', e.born ∈ (P'.map fun p => st.getD p 0)) ∧ (Instr.next (.pointer (some ⟨b', 0, none⟩)) false ty).run P w = .ok (.tuple #[.bool false]) w) ∨
      ∃ e ∈ es', e.born ∉ (P'.map fun p => st.getD p 0) ∧ ∃ n : Nat, (Instr.next (.pointer (some ⟨b', 0, none⟩)) false ty).run P w = .ok (.tuple #[.bool true, e.key, e.val]) { w with drawn := w.drawn + n, heap := w.heap.setIfInBounds b' (.mapIter (some b) c ((P'.map fun p => st.getD p 0) ++ [e.born]).toArray c) } := by
    have hold : ∀ x ∈ es', x.born < c := hstm.2
    generalize (P'.map fun p => st.getD p 0) = seenl at hit ⊢
    have hget : (getObj b' : Sem Obj).run P w = .ok (.mapIter (some b) c seenl.toArray c) w := by simp only [getObj, Sem.run, hit]
    have htest : (!seenl.toArray.isEmpty && !es'.toArray.isEmpty && es'.toArray.all (fun x => decide (x.born ≥ c))) = false := next_test_false seenl.toArray es'.toArray c c (fun x hx => hold x (by simpa using hx)) (Nat.le_refl _)
    have hLm : ∀ x ∈ (leftOf es'.toArray seenl.toArray).toList, x ∈ es' ∧ x.born ∉ seenl := fun x hx => by
      have := leftOf_mem hx
      simpa using this
    have hL0 : (leftOf es'.toArray seenl.toArray).size = 0 → ∀ e ∈ es', e.born ∈ seenl := fun h => by
      have := leftOf_none h
      simpa using this
    have hlf : leftOf es'.toArray seenl.toArray = Array.filter (fun e => !seenl.toArray.contains e.born) es'.toArray := rfl
    simp only [Instr.next, Sem.run_bind, hget, MapKept.run_getObj_map hb, Result.andThen, htest, Bool.false_eq_true, if_false]
    rw [← hlf]
    generalize leftOf es'.toArray seenl.toArray = L at hLm hL0 ⊢
    have e1 : L.filter (fun x => decide (x.born < c)) = L := Array.filter_eq_self.2 (fun x hx => by simpa using hold x (hLm x (by simpa using hx)).1)
    have e2 : L.filter (fun x => decide (x.born ≥ c)) = #[] := by
      rw [Array.filter_eq_empty_iff]
      intro x hx
      have := hold x (hLm x (by simpa using hx)).1
      simp
      omega
    simp only [e1, e2, Array.append_empty]
    by_cases h0 : L.size = 0
    · left
      have : L = #[] := Array.eq_empty_of_size_eq_zero h0
      refine ⟨hL0 h0, ?_⟩
      subst this
      simp [choose, Sem.run, Question.forced]
    · right
      have hne : L.isEmpty = false := by simp [Array.isEmpty, h0]
      simp only [hne, Bool.false_eq_true, if_false, Array.empty_append, Array.size_map]
      have hch : ∃ (q n : Nat), q < L.size ∧ (choose (Question.mapNext L.size)).run P w = .ok q { w with drawn := w.drawn + n } := by
        by_cases hf : L.size ≤ 1
        · exact ⟨0, 0, by omega, by simp [choose, Sem.run, Question.forced, hf]⟩
        · exact ⟨_, 1, Nat.mod_lt _ (by omega), by
            simp only [choose, Sem.run, Question.forced, decide_eq_true_eq, hf, if_false, Question.cut]
            rfl⟩
      obtain ⟨q, n, hq, hrun⟩ := hch
      have hmem := hLm L[q] (by simp)
      refine ⟨L[q], hmem.1, hmem.2, n, ?_⟩
      have hset : ∀ o' : Obj, (setObj b' o').run P { w with drawn := w.drawn + n } = .ok () { w with drawn := w.drawn + n, heap := w.heap.setIfInBounds b' o' } := fun o' => by
        simp only [setObj, Sem.run, hit]
      simp only [hrun, Array.getElem?_map, Array.getElem?_eq_getElem hq, Option.map_some, Sem.run_bind, hset, Result.andThen]
      simp
  rcases key with ⟨hall, hrun⟩ | ⟨e0, hm, hn, n, hrun⟩
  · have hrun2 : (execOp e ⟨d, .next x false, ty, pos, aft, g⟩).run P w = .ok (.value (.tuple #[.bool false])) w := by
      simp [execOp, h1, hrun]
    rw [hrun2]
    refine ⟨M, _, _, hdone (fun k hk => ?_), Ext.refl _ _, hh, by simp only [RA, RT, RTs]; exact ⟨[.bool false], rfl, _, _, rfl, rfl, rfl⟩⟩
    have hk' : k < es'.length := by omega
    have := hall es'[k] (List.getElem_mem hk')
    obtain ⟨p, hp, hpe⟩ := List.mem_map.1 this
    have hpl := hPl p hp
    rw [hst1, List.length_map] at hpl
    rw [hst1, List.getD_eq_getElem?_getD, List.getElem?_map, List.getElem?_eq_getElem hpl] at hpe
    have : p = k := nodup_map_inj hstm.1 hpl hk' hpe
    rw [← this]; exact hp
  · obtain ⟨k, hk, rfl⟩ := List.getElem_of_mem hm
    have hk2 : k < es.length := by omega
    have hkey : es'[k].key = es[k].1 := by
      have := congrArg (fun l => l[k]?) hkeys
      simpa [List.getElem?_map, List.getElem?_eq_getElem hk, List.getElem?_eq_getElem hk2] using this
    have hkP : k ∉ P' := fun h => hn (List.mem_map.2 ⟨k, h, by rw [hst1, List.getD_eq_getElem?_getD, List.getElem?_map, List.getElem?_eq_getElem hk]; rfl⟩)
    obtain ⟨u, hu1, hu2⟩ := hvals.get (j := k) (t := es[k].2) (by rw [List.getElem?_map, List.getElem?_eq_getElem hk2]; rfl)
    rw [List.getElem?_map, List.getElem?_eq_getElem hk] at hu1
    obtain rfl : es'[k].val = u := by simpa using hu1
    have hrun2 : (execOp e ⟨d, .next x false, ty, pos, aft, g⟩).run P w = .ok (.value (.tuple #[.bool true, es'[k].key, es'[k].val])) { w with drawn := w.drawn + n, heap := w.heap.setIfInBounds b' (.mapIter (some b) c ((P'.map fun p => st.getD p 0) ++ [es'[k].born]).toArray c) } := by
      simp [execOp, h1, hrun]
    rw [hrun2]
    refine ⟨M, _, _, hmore k es[k].1 es[k].2 (List.getElem?_eq_getElem hk2) hkP, Ext.refl _ _, ?_, by simp only [RA, RT, RTs]; exact ⟨[.bool true, es'[k].key, es'[k].val], rfl, _, _, rfl, rfl, _, _, rfl, hkey, _, _, rfl, hu2, rfl⟩⟩
    refine hh.step i rfl rfl rfl (by simp) (fun q hq hne => ?_) (Ext.refl _ _) (fun p v h1 h2 => by rw [h2] at h1; cases h1) (fun q hq => by rw [List.getElem?_set_ne (Ne.symm hq)]) (fun x' hx' => ?_)
    · have : q ≠ b' := fun e => hne _ hi (by rw [e]; rfl)
      simp [Array.getElem?_setIfInBounds, Ne.symm this]
    · rw [List.getElem?_set_self hil] at hx'
      obtain rfl : _ = x' := by injection hx'
      refine ⟨⟨?_, fun p hp => ?_⟩, fun q hq => .inl ⟨_, hi, hq⟩⟩
      · have : (P' ++ [k]).map (fun p => st.getD p 0) = (P'.map fun p => st.getD p 0) ++ [es'[k].born] := by
          rw [List.map_append, hst1]
          simp [List.getD_eq_getElem?_getD, List.getElem?_map, List.getElem?_eq_getElem hk]
        rw [this]
        simp [Array.getElem?_setIfInBounds, hbl]
      · rcases List.mem_append.1 hp with hp | hp
        · exact hPl p hp
        · rw [List.mem_singleton.1 hp, hst1, List.length_map]; exact hk
end
theorem heap_unit {F : Frm} {M : Mm} {hp : List Blk} {w : World} {i b : Nat} {es : List (Value × T)} {o : Option (List Nat × Nat)} (h : HeapOk F M hp w) (hi : hp[i]? = some (.mpx b es o)) : HeapOk F M (hp.set i (.mp b es)) w := by
  have hil : i < hp.length := (List.getElem?_eq_some_iff.1 hi).1
  have hg : ∀ (j : Nat) (x : Blk), (hp.set i (.mp b es))[j]? = some x → ∃ y, hp[j]? = some y ∧ x.blk = y.blk ∧ BlkOk M w x := by
    intro j x hj
    by_cases hij : i = j
    · subst hij
      rw [List.getElem?_set_self hil] at hj
      obtain rfl : _ = x := by injection hj
      obtain ⟨l, clock, h1, h2, h3, h4, -⟩ := h.at_ i _ hi
      exact ⟨_, hi, rfl, ⟨l, clock, h1, h2, h3, h4, fun s hs => by cases hs⟩⟩
    · rw [List.getElem?_set_ne hij] at hj
      exact ⟨x, hj, rfl, h.at_ j x hj⟩
  refine ⟨h.mem, h.ext, h.frm, fun j x hj => (hg j x hj).choose_spec.2.2, fun j k x y q hj hk hx hy => ?_, fun j x q hj hq => ?_⟩
  · obtain ⟨x', h3, h4, -⟩ := hg j x hj
    obtain ⟨y', h5, h6, -⟩ := hg k y hk
    exact h.sep j k x' y' q h3 h5 (by rw [← h4]; exact hx) (by rw [← h6]; exact hy)
  · obtain ⟨x', h3, h4, -⟩ := hg j x hj
    exact h.out j x' q h3 (by rw [← h4]; exact hq)
section
variable {P : Program} {F : Frm} {τ : Nat → AV} {hp : List Blk} {N : Nat} {Q : Exit → AS → Prop}
theorem wk_unit (i : Nat) {b : Nat} {es : List (Value × T)} {o : Option (List Nat × Nat)} (hi : hp[i]? = some (.mpx b es o)) : Wk F ⟨τ, hp, N⟩ ⟨τ, hp.set i (.mp b es), N⟩ := by
  intro M a w hr
  exact ⟨M, hr.tmps, hr.size, hr.defers, heap_unit hr.heap hi⟩
end
end Go.Proofs.Ytdogdjcjmhogmaa
namespace Go.Proofs.Ytdogdjcjmhogmaa
open Go.RowKit
section
variable {α β : Type}
def mapT (f : β → T) (l : List (α × β)) : List (α × T) := l.map fun p => (p.1, f p.2)
end
section
variable {α β : Type} [DecidableEq α]
def gget (k : α) : List (α × β) → Option β
  | [] => none
  | (k', b) :: l => if k = k' then some b else gget k l
def gput (k : α) (b : β) : List (α × β) → List (α × β)
  | [] => [(k, b)]
  | (k', b') :: l => if k = k' then (k, b) :: l else (k', b') :: gput k b l
theorem mget_T (f : β → T) (k : α) : ∀ l : List (α × β), mget k (mapT f l) = (gget k l).map f
  | [] => rfl
  | (k', b) :: l => by
    show (if k = k' then some (f b) else mget k (mapT f l)) = _
    rw [mget_T f k l, gget]
    split <;> rfl
theorem mput_T (f : β → T) (k : α) (b : β) : ∀ l : List (α × β), mput k (f b) (mapT f l) = mapT f (gput k b l)
  | [] => rfl
  | (k', b') :: l => by
    show (if k = k' then (k, f b) :: mapT f l else (k', f b') :: mput k (f b) (mapT f l)) = _
    rw [mput_T f k b l, gput]
    split <;> rfl
theorem gget_put (k k' : α) (b : β) : ∀ l : List (α × β), gget k (gput k' b l) = if k = k' then some b else gget k l
  | [] => by simp [gput, gget]
  | (k2, b2) :: l => by
    simp only [gput]
    by_cases h : k' = k2
    · subst h
      simp only [if_true, gget]
      split <;> rfl
    · simp only [if_neg h, gget, gget_put k k' b l]
      by_cases h2 : k = k2
      · subst h2
        simp [Ne.symm h]
      · simp [h2]
end
end Go.Proofs.Ytdogdjcjmhogmaa
namespace Go.Proofs.Ytdogdjcjmhogmaa
open Go.RowKit
section
variable {P : Program} {F : Frm} {d : Option Tmp} {ty : TypeId} {pos : String} {aft : Array Edge} {g : Option (Nat × Bool)} {ρ : Operand → AV} {hp : List Blk} {K : AV → List Blk → Prop}
theorem lo_entry {x : Operand} {i j b b' c k : Nat} {es : List (Value × T)} {st P' : List Nat} {u : Value} {t : T} (hx : ρ x = .ptr i b' 0) (hi : hp[i]? = some (.it b' b st c (P' ++ [k]))) (hj : hp[j]? = some (.mpx b es (some (st, c)))) (hk : es[k]? = some (u, t))
    (h : K (.c (.tup [.lit u, t])) hp) : LO P F ⟨d, .entry x, ty, pos, aft, g⟩ ρ hp K := by
  refine LO.same (fun M e w he hh => ?_) h
  have h1 := he x (by first | (simp [Op.operands]; done) | simp [Op.operands, Call.operands])
  rw [hx] at h1
  simp only [RA] at h1
  obtain ⟨es', clock, hb, hkeys, hvals, hstm, hst⟩ := hh.at_ j _ hj
  obtain ⟨hst1, rfl⟩ : st = es'.map (·.born) ∧ c = clock := by
    have := hst (st, c) rfl
    exact ⟨congrArg Prod.fst this, congrArg Prod.snd this⟩
  obtain ⟨hit, -⟩ : w.heap[b']? = some (.mapIter (some b) c ((P' ++ [k]).map fun p => st.getD p 0).toArray c) ∧ ∀ p ∈ P' ++ [k], p < st.length := hh.at_ i _ hi
  have hlen : es'.length = es.length := by simpa using congrArg List.length hkeys
  obtain ⟨hk2, hke⟩ := List.getElem?_eq_some_iff.1 hk
  have hk1 : k < es'.length := by omega
  have hkey : es'[k].key = u := by
    have := congrArg (fun l => l[k]?) hkeys
    simp only [List.getElem?_map, List.getElem?_eq_getElem hk1, hk, Option.map_some, Option.some.injEq] at this
    exact this
  obtain ⟨z, hz1, hz2⟩ := hvals.get (j := k) (t := t) (by rw [List.getElem?_map, hk]; rfl)
  rw [List.getElem?_map, List.getElem?_eq_getElem hk1] at hz1
  obtain rfl : es'[k].val = z := by simpa using hz1
  have hborn : st.getD k 0 = es'[k].born := by rw [hst1]; simp [List.getD_eq_getElem?_getD, List.getElem?_map, List.getElem?_eq_getElem hk1]
  have hseen : ((P' ++ [k]).map fun p => st.getD p 0) = (P'.map fun p => st.getD p 0) ++ [es'[k].born] := by
    rw [List.map_append, ← hborn]; rfl
  rw [hseen] at hit
  have hfind := find_born es'[k] es' hstm.1 (List.getElem_mem hk1)
  have hback : (((P'.map fun p => st.getD p 0) ++ [es'[k].born]).toArray).back? = some es'[k].born := by simp
  generalize ((P'.map fun p => st.getD p 0) ++ [es'[k].born]).toArray = seen at *
  have hrun : (Instr.entry (.pointer (some ⟨b', 0, none⟩))).run P w = .ok (.tuple #[es'[k].key, es'[k].val]) w := by
    have hget : (getObj b' : Sem Obj).run P w = .ok (.mapIter (some b) c seen c) w := by simp only [getObj, Sem.run, hit]
    simp only [Instr.entry, Sem.run_bind, hget, MapKept.run_getObj_map hb, Result.andThen, hback, bne_self_eq_false, Bool.false_eq_true, if_false]
    have hf2 : es'.toArray.find? (fun e => e.born == es'[k].born) = some es'[k] := by rw [← Array.find?_toList]; exact hfind
    rw [hf2]
    rfl
  refine ⟨.tuple #[es'[k].key, es'[k].val], ?_, by simp only [RA, RT, RTs]; exact ⟨[es'[k].key, es'[k].val], rfl, _, _, rfl, hkey, _, _, rfl, hz2, rfl⟩⟩
  simp [execOp, h1, hrun]
theorem zEn {x : Operand} {i b b' c k : Nat} {es : List (Value × T)} {st P' : List Nat} {u : Value} {t : T} (j : Nat) (hk : es[k]? = some (u, t)) (h : K (.c (.tup [.lit u, t])) hp) (hx : ρ x = .ptr i b' 0 := by exact rfl) (hi : hp[i]? = some (.it b' b st c (P' ++ [k])) := by exact rfl) (hj : hp[j]? = some (.mpx b es (some (st, c))) := by exact rfl) : LO P F ⟨d, .entry x, ty, pos, aft, g⟩ ρ hp K :=
  lo_entry hx hi hj hk h
end
theorem walk_len {l : List Nat} {n : Nat} (h : l.Nodup) (hl : ∀ p ∈ l, p < n) : l.length ≤ n := by
  have := h.length_le_of_subset (l₂ := List.range n) fun x hx => List.mem_range.2 (hl x hx)
  simpa using this
theorem walk_snoc {l : List Nat} {n k : Nat} (h : l.Nodup) (hl : ∀ p ∈ l, p < n) (hk : k < n) (hn : k ∉ l) : (l ++ [k]).Nodup ∧ ∀ p ∈ l ++ [k], p < n := by
  refine ⟨?_, fun p hp => ?_⟩
  · rw [List.nodup_append]
    refine ⟨h, by simp, fun a ha b hb e => ?_⟩
    rw [List.mem_singleton.1 hb] at e
    rw [e] at ha; exact hn ha
  · rcases List.mem_append.1 hp with hp | hp
    · exact hl p hp
    · rw [List.mem_singleton.1 hp]; exact hk
end Go.Proofs.Ytdogdjcjmhogmaa
