/-
  Texts of this proof, part 5: Ab20 Ab21 Ab22 Ab23 Tab Tuv Tv Tvp.
-/
import Derived.Test.YthgackidonocpaaGreatQStoreLast4
import Derived.Lib.AppendStr
import Derived.MapKept
import Derived.Test.YthgackidonocpaaGreatProg
namespace Go.Proofs.YthgackidonocpaaGreat
open Go.RowKit
theorem HeapOk.take {F : Frm} {M : Mm} {hp : List Blk} {w : World} (h : HeapOk F M hp w) (k : Nat) : HeapOk F M (hp.take k) w := by
  have hg : ∀ (i : Nat) (x : Blk), (hp.take k)[i]? = some x → hp[i]? = some x := by
    intro i x hx
    rw [List.getElem?_take] at hx
    split at hx
    · exact hx
    · cases hx
  exact ⟨h.mem, h.ext, h.frm, fun i x hx => h.at_ i x (hg i x hx), fun i j x y b hx hy => h.sep i j x y b (hg i x hx) (hg j y hy), fun i x b hx => h.out i x b (hg i x hx)⟩
/-- the function, given values that read so and blocks of the caller's own, returns a value that reads so, the blocks turned -/
def AG (P : Program) (f : FuncId) (asq : List AV) (hs : List Blk) (R : AV → List Blk → Prop) : Prop :=
  Enters P f ∧ ∀ (F : Frm) (M : Mm) (w : World) (vs : List Value), HeapOk F M hs w → RAs M asq vs →
    Calls P f vs.toArray w fun e w' => ∃ v r hs' M', e = .returned v ∧ R r hs' ∧ Ext F.may M M' ∧ HeapOk F M' hs' w' ∧ RA M' r v
theorem AG.imp {P : Program} {f : FuncId} {asq : List AV} {hs : List Blk} {R R' : AV → List Blk → Prop} (h : AG P f asq hs R) (hi : ∀ r hs, R r hs → R' r hs) : AG P f asq hs R' :=
  ⟨h.1, fun F M w vs hM hv => (h.2 F M w vs hM hv).mono fun _ _ ⟨v, r, hs', M', h1, h2, h3⟩ => ⟨v, r, hs', M', h1, hi r hs' h2, h3⟩⟩
/-- the end of such a function: the first k blocks are handed back -/
structure FinG (L : Tab) (res : List ResultVar) (k : Nat) (R : AV → List Blk → Prop) (e : Exit) (σ : AS) : Prop where
  out : (e = .normal ∨ e = .ret) ∧ ∃ vs, OutsA L σ res vs ∧ R (outA vs) (σ.hp.take k)
section
variable {P : Program} {F : Frm} {L : Tab}
theorem ag_enter {f : FuncId} {fn : Func} {c : Code} {asq : List AV} {hs : List Blk} {R : AV → List Blk → Prop} {N : Nat} {res : List ResultVar} (k : Nat) (hL : TabOk P L) (hf : P.funcs[f]? = some fn) (hNt : fn.ntmps = N) (hres : fn.results = res.toArray) (hb : fn.body = some c) (hn : (fn.name == "runtime.NumGoroutine") = false) (hN : Nat.ble asq.length N = true)
    (h : ∀ F, AC P F c (FinG L res k R) ⟨initT N asq, hs, N⟩) : AG P f asq hs R := by
  refine ⟨⟨fn, hf, hn, by rw [hb]; rfl⟩, fun F M w vs hh hav => ?_⟩
  have hlen := hav.len
  have hNl := Nat.le_of_ble_eq_true hN
  refine calls_of_wp hf hb (wp_mono ((h ⟨F.w0, F.X, M⟩).out M _ w ⟨?_, ?_, rfl, ⟨hh.mem, Ext.refl _ _, ⟨hh.frm.os, hh.frm.tape, hh.frm.output, hh.frm.size, hh.frm.block⟩, hh.at_, hh.sep, hh.out⟩⟩) ?_)
  · intro i
    simp only [initT]
    by_cases hi : i < asq.length
    · have : Nat.blt i N = true := Nat.ble_eq_true_of_le (by omega)
      rw [this, cond_true]
      have h1 : asq[i]? = some asq[i] := List.getElem?_eq_getElem hi
      obtain ⟨x, hx, hra⟩ := hav.get h1
      rw [List.getD_eq_getElem?_getD, h1]
      have h2 : i < vs.length := by omega
      have h3 : vs[i] = x := by rw [List.getElem?_eq_getElem h2] at hx; injection hx
      simp [Array.getD_eq_getD_getElem?, Array.getElem?_append, h2, h3]
      exact hra
    · have h1 : asq.getD i (.c (.lit undef)) = .c (.lit undef) := by
        rw [List.getD_eq_getElem?_getD, List.getElem?_eq_none (by omega)]; rfl
      rw [h1]
      have h2 : ¬ i < vs.length := by omega
      have h3 : (vs.toArray ++ Array.replicate (fn.ntmps - vs.toArray.size) undef).getD i undef = undef := by
        simp [Array.getD_eq_getD_getElem?, Array.getElem?_append, h2, Array.getElem?_replicate]
        split <;> rfl
      rw [h3]
      cases Nat.blt i N <;> simp only [cond_true, cond_false, RA, RT]
  · simp [hNt]; omega
  · rintro e' a' w' ⟨M', σ', ⟨⟨he', vs', ho, hK⟩⟩, hr⟩
    rw [show res = fn.results.toList by rw [hres]] at ho
    obtain ⟨u, hu', hRA⟩ := resultsA_sound hL hr ho
    have hx : Ext F.may M M' := hr.heap.ext
    have hh' : HeapOk F M' σ'.hp w' := ⟨hr.heap.mem, hh.ext.trans hx, ⟨hr.heap.frm.os, hr.heap.frm.tape, hr.heap.frm.output, hr.heap.frm.size, hr.heap.frm.block⟩, hr.heap.at_, hr.heap.sep, hr.heap.out⟩
    have hfin : a'.defers = [] ∧ ∃ v, (results fn a'.tmps).run P w' = .ok v w' ∧ ∃ v' r hs' M', Ending.returned v = .returned v' ∧ R r hs' ∧ Ext F.may M M' ∧ HeapOk F M' hs' w' ∧ RA M' r v' :=
      ⟨hr.defers, u, hu', u, outA vs', σ'.hp.take k, M', rfl, hK, hx, hh'.take k, hRA⟩
    rcases he' with rfl | rfl <;> exact hfin
end
def selB (hp : List Blk) : List Nat → Option (List Blk)
  | [] => some []
  | i :: is => match hp[i]?, selB hp is with | some x, some r => some (x :: r) | _, _ => none
def freshB : List Nat → Bool
  | [] => true
  | i :: is => !is.contains i && freshB is
def putB (hp : List Blk) : List Nat → List Blk → List Blk
  | [], hs => hp ++ hs
  | _ :: _, [] => hp
  | i :: is, x :: hs => (putB hp is hs).set i x
def posB (hp : List Blk) (sel : List Nat) (i : Nat) : Nat := match sel[i]? with | some j => j | none => hp.length + (i - sel.length)
theorem selB_get {hp : List Blk} : ∀ {sel : List Nat} {hs : List Blk}, selB hp sel = some hs → ∀ {i : Nat} {x : Blk}, hs[i]? = some x → ∃ j : Nat, sel[i]? = some j ∧ hp[j]? = some x
  | [], hs, h, i, x, hx => by simp only [selB, Option.some.injEq] at h; subst h; simp at hx
  | k :: is, hs, h, i, x, hx => by
    simp only [selB] at h
    cases h1 : hp[k]? with
    | none => rw [h1] at h; cases h
    | some y =>
      cases h2 : selB hp is with
      | none => rw [h1, h2] at h; cases h
      | some r =>
        rw [h1, h2] at h
        simp only [Option.some.injEq] at h
        subst h
        cases i with
        | zero => simp only [List.getElem?_cons_zero, Option.some.injEq] at hx; subst hx; exact ⟨k, rfl, h1⟩
        | succ i => obtain ⟨j, h3, h4⟩ := selB_get h2 (i := i) (by simpa using hx); exact ⟨j, by simpa using h3, h4⟩
theorem freshB_inj : ∀ {sel : List Nat}, freshB sel = true → ∀ {i i' j : Nat}, sel[i]? = some j → sel[i']? = some j → i = i'
  | [], _, i, i', j, h, _ => by simp at h
  | k :: is, hf, i, i', j, h, h' => by
    simp only [freshB, Bool.and_eq_true, Bool.not_eq_true', List.contains_eq_mem, decide_eq_false_iff_not] at hf
    cases i with
    | zero =>
      simp only [List.getElem?_cons_zero, Option.some.injEq] at h
      cases i' with
      | zero => rfl
      | succ i' => simp only [List.getElem?_cons_succ] at h'; exact absurd (h ▸ List.mem_of_getElem? h') hf.1
    | succ i =>
      simp only [List.getElem?_cons_succ] at h
      cases i' with
      | zero => simp only [List.getElem?_cons_zero, Option.some.injEq] at h'; exact absurd (h' ▸ List.mem_of_getElem? h) hf.1
      | succ i' => simp only [List.getElem?_cons_succ] at h'; rw [freshB_inj hf.2 h h']
theorem putB_get {hp : List Blk} : ∀ {sel : List Nat} {hs : List Blk}, sel.length ≤ hs.length → ∀ {j : Nat} {x : Blk}, (putB hp sel hs)[j]? = some x → (∃ i, j = posB hp sel i ∧ hs[i]? = some x) ∨ (hp[j]? = some x ∧ j ∉ sel)
  | [], hs, _, j, x, h => by
    simp only [putB] at h
    rcases Nat.lt_or_ge j hp.length with hj | hj
    · rw [List.getElem?_append_left hj] at h
      exact .inr ⟨h, by simp⟩
    · rw [List.getElem?_append_right hj] at h
      exact .inl ⟨j - hp.length, by simp only [posB, List.getElem?_nil, List.length_nil]; omega, h⟩
  | k :: is, [], hl, _, _, _ => by simp at hl
  | k :: is, y :: hs, hl, j, x, h => by
    simp only [putB, List.getElem?_set] at h
    split at h
    · rename_i hkj
      subst hkj
      split at h
      · exact .inl ⟨0, rfl, by simpa using h⟩
      · cases h
    · rename_i hkj
      rcases putB_get (by simpa using hl) h with ⟨i, h1, h2⟩ | ⟨h1, h2⟩
      · refine .inl ⟨i + 1, ?_, by simpa using h2⟩
        rw [h1]
        simp only [posB, List.getElem?_cons_succ, List.length_cons]
        split <;> omega
      · exact .inr ⟨h1, by simp [h2, Ne.symm hkj]⟩
def subF (M : Mm) (hs : List Blk) (w : World) : Frm := ⟨w, fun b => ∃ (i : Nat) (x : Blk), hs[i]? = some x ∧ x.blk = some b, M⟩
theorem heap_sel {F : Frm} {M : Mm} {hp hs : List Blk} {w : World} {sel : List Nat} (h : HeapOk F M hp w) (hs' : selB hp sel = some hs) (hf : freshB sel = true) : HeapOk (subF M hs w) M hs w := by
  refine ⟨h.mem, Ext.refl _ _, ⟨rfl, rfl, rfl, Nat.le_refl _, fun _ _ _ => rfl⟩, fun i x hx => ?_, fun i j x y b hx hy hxb hyb => ?_, fun i x b hx hxb => ?_⟩
  · obtain ⟨j, _, h2⟩ := selB_get hs' hx
    exact h.at_ j x h2
  · obtain ⟨k, h1, h2⟩ := selB_get hs' hx
    obtain ⟨k', h3, h4⟩ := selB_get hs' hy
    have := h.sep k k' x y b h2 h4 hxb hyb
    subst this
    exact freshB_inj hf h1 h3
  · obtain ⟨j, _, h2⟩ := selB_get hs' hx
    exact ⟨.inl ⟨i, x, hx, hxb⟩, (h.out j x b h2 hxb).2⟩
theorem sub_may {F : Frm} {M : Mm} {hp hs : List Blk} {w : World} {sel : List Nat} (h : HeapOk F M hp w) (hs' : selB hp sel = some hs) (b : Nat) (hb : (subF M hs w).may b) : F.may b := by
  rcases hb with ⟨i, x, hx, hxb⟩ | hb
  · obtain ⟨j, _, h2⟩ := selB_get hs' hx
    exact (h.out j x b h2 hxb).1
  · exact .inr (Nat.le_trans h.frm.size hb)
theorem heap_put {F : Frm} {M M' : Mm} {hp hs hs2 : List Blk} {w w' : World} {sel : List Nat} (h : HeapOk F M hp w) (hsl : selB hp sel = some hs) (hl : sel.length ≤ hs2.length) (h2 : HeapOk (subF M hs w) M' hs2 w') : HeapOk F M' (putB hp sel hs2) w' := by
  have hM : Ext (subF M hs w).may M M' := h2.ext
  have hX : ∀ b, (subF M hs w).X b → ∃ (j : Nat) (x : Blk), j ∈ sel ∧ hp[j]? = some x ∧ x.blk = some b := by
    rintro b ⟨i, x, hx, hb⟩
    obtain ⟨j, h3, h4⟩ := selB_get hsl hx
    exact ⟨j, x, List.mem_of_getElem? h3, h4, hb⟩
  have hold : ∀ (j : Nat) (x : Blk) (b : Nat), hp[j]? = some x → j ∉ sel → x.blk = some b → b < w.heap.size ∧ ¬ (subF M hs w).X b := by
    intro j x b hx hj hb
    refine ⟨(h.at_ j x hx).lt hb, fun hXb => ?_⟩
    obtain ⟨k, y, hk, hy, hyb⟩ := hX b hXb
    have := h.sep j k x y b hx hy hb hyb
    subst this
    exact hj hk
  refine ⟨h2.mem, h.ext.trans (hM.to (sub_may h hsl)), ⟨h2.frm.os.trans h.frm.os, h2.frm.tape.trans h.frm.tape, h2.frm.output.trans h.frm.output, Nat.le_trans h.frm.size h2.frm.size, fun b hb hnX => ?_⟩, fun j x hx => ?_, fun j k x y b hx hy hxb hyb => ?_, fun j x b hx hxb => ?_⟩
  · refine (h2.frm.block b (Nat.lt_of_lt_of_le hb h.frm.size) fun hXb => ?_).trans (h.frm.block b hb hnX)
    obtain ⟨k, y, _, hy, hyb⟩ := hX b hXb
    rcases (h.out k y b hy hyb).1 with h3 | h3
    · exact hnX h3
    · omega
  · rcases putB_get hl hx with ⟨i, _, hi⟩ | ⟨hj, hns⟩
    · exact h2.at_ i x hi
    · exact (h.at_ j x hj).keep hM.sub fun b hb hlt => h2.frm.block b hlt (hold j x b hj hns hb).2
  · rcases putB_get hl hx with ⟨i, hji, hi⟩ | ⟨hj, hns⟩
    · rcases putB_get hl hy with ⟨i', hji', hi'⟩ | ⟨hk, hns'⟩
      · rw [hji, hji', h2.sep i i' x y b hi hi' hxb hyb]
      · obtain ⟨h3, h4⟩ := hold k y b hk hns' hyb
        rcases (h2.out i x b hi hxb).1 with h5 | h5
        · exact absurd h5 h4
        · have : w.heap.size ≤ b := h5
          omega
    · rcases putB_get hl hy with ⟨i', hji', hi'⟩ | ⟨hk, hns'⟩
      · obtain ⟨h3, h4⟩ := hold j x b hj hns hxb
        rcases (h2.out i' y b hi' hyb).1 with h5 | h5
        · exact absurd h5 h4
        · have : w.heap.size ≤ b := h5
          omega
      · exact h.sep j k x y b hj hk hxb hyb
  · rcases putB_get hl hx with ⟨i, hji, hi⟩ | ⟨hj, hns⟩
    · obtain ⟨h3, h4⟩ := h2.out i x b hi hxb
      refine ⟨?_, h4⟩
      rcases h3 with h5 | h5
      · obtain ⟨k, y, _, hy, hyb⟩ := hX b h5
        exact (h.out k y b hy hyb).1
      · exact .inr (Nat.le_trans h.frm.size h5)
    · obtain ⟨h3, h4⟩ := h.out j x b hj hxb
      refine ⟨h3, fun p hp' => ?_⟩
      have hlt := hold j x b hj hns hxb
      cases hc : M' p with
      | none => rfl
      | some v =>
        rcases hM.2 p v hc with h5 | h5
        · rw [h4 p hp'] at h5; cases h5
        · rcases h5 with h6 | h6
          · exact absurd (hp' ▸ h6) hlt.2
          · have h7 : w.heap.size ≤ p.block := h6
            omega
def Re (a b : AV) : Prop := ∀ M u, RA M a u → RA M b u
def Res (asq bs : List AV) : Prop := ∀ M us, RAs M asq us → RAs M bs us
theorem re_refl {a : AV} : Re a a := fun _ _ h => h
theorem re_own {i j : Nat} {v : Value} : Re (.own i v) (.own j v) := fun M u h => by simp only [RA] at h ⊢; exact h
theorem re_ptr {i j b off : Nat} : Re (.ptr i b off) (.ptr j b off) := fun M u h => by simp only [RA] at h ⊢; exact h
theorem re_cls {a : AV} {t : T} (hz : Rzs [] [a] [t]) : Re a (.c t) := fun M u h => by
  have h1 : RAs M [a] [u] := by simp only [RAs]; exact ⟨u, [], rfl, h, rfl⟩
  have h2 := cls_sound _ _ _ hz h1
  simp only [RTs] at h2
  obtain ⟨x, r, e, h3, _⟩ := h2
  injection e with e _
  subst e
  simpa only [RA] using h3
theorem res_nil : Res [] [] := fun _ _ h => h
theorem res_cons {a b : AV} {asq bs : List AV} (h : Re a b) (h' : Res asq bs) : Res (a :: asq) (b :: bs) := fun M us hu => by
  simp only [RAs] at hu ⊢
  obtain ⟨x, r, e, h1, h2⟩ := hu
  exact ⟨x, r, e, h M x h1, h' M r h2⟩
section
variable {P : Program} {F : Frm} {d : Option Tmp} {ty : TypeId} {pos : String} {aft : Array Edge} {g : Option (Nat × Bool)} {ρ : Operand → AV} {hp : List Blk} {K : AV → List Blk → Prop}
theorem lo_callG {f : FuncId} {y : Operand} {xs : List Operand} {ats : Array TypeId} {asq cap : List AV} {hs : List Blk} {R : AV → List Blk → Prop} (sel : List Nat) (hc : AG P f asq hs R) (hy : ∀ M u, RA M (ρ y) u → ∃ cs : List Value, u = .func (.func f) #[] cs.toArray ∧ RAs M cap cs) (hx : Res (xs.map ρ ++ cap) asq) (hsl : selB hp sel = some hs) (hf : freshB sel = true)
    (h : ∀ r hs2, R r hs2 → ∃ r', Re r r' ∧ sel.length ≤ hs2.length ∧ K r' (putB hp sel hs2)) : LO P F ⟨d, .call { callee := .value y, args := xs.toArray, argTypes := ats }, ty, pos, aft, g⟩ ρ hp K := by
  refine ⟨fun M e w he hh => ?_⟩
  obtain ⟨hE, hcall⟩ := hc
  have h1 := he y (by simp [Op.operands, Call.operands])
  obtain ⟨cs, hu, hcs⟩ := hy M _ h1
  rw [run_call hE hu]
  have hav := (ev_all xs (fun x hx => he x (by simp [Op.operands, Call.operands, hx]))).app hcs
  refine (hcall (subF M hs w) M w _ (heap_sel hh hsl hf) (hx M _ hav)).mono ?_
  rintro e' w' ⟨v, r, hs2, M', rfl, hR, hM, hh2, hr⟩
  obtain ⟨r', hre, hl, hK⟩ := h r hs2 hR
  exact ⟨v, rfl, M', r', _, hK, hM.to (sub_may hh hsl), heap_put hh hsl hl hh2, hre M' v hr⟩
end
end Go.Proofs.YthgackidonocpaaGreat
namespace Go.Proofs.YthgackidonocpaaGreat
open Go.RowKit Go.Lib
def bytT (b : UInt8) : T := .lit (.int .u8 (b.toNat : Int))
def byts (l : List UInt8) : List T := l.map bytT
def bytRow (l : List UInt8) : T := .row l.length 1 (byts l)
theorem byts_len (l : List UInt8) : (byts l).length = l.length := by simp [byts]
theorem byts_app (l r : List UInt8) : byts (l ++ r) = byts l ++ byts r := by simp [byts]
theorem rt_byts {M : Mm} : ∀ l : List UInt8, RTs M (byts l) (bvs l)
  | [] => by simp [byts, bvs, RTs]
  | b :: l => by
    simp only [byts, bvs, List.map_cons, RTs]
    exact ⟨_, _, rfl, by simp only [bytT, RT, bv], rt_byts l⟩
theorem byts_of {M : Mm} : ∀ {l : List UInt8} {xs : List Value}, RTs M (byts l) xs → xs = bvs l
  | [], _, h => by simpa [byts, RTs, bvs] using h
  | b :: l, _, h => by
    simp only [byts, List.map_cons, RTs] at h
    obtain ⟨x, r, rfl, h1, h2⟩ := h
    simp only [bytT, RT] at h1
    rw [h1, byts_of (l := l) h2]
    rfl
theorem rd_of_row {M : Mm} {w : World} (hm : MemOk M w) {l : List UInt8} {u : Value} (h : RT M (bytRow l) u) : ∃ A c, u = .slice A l.length c ∧ Rd w w.heap.size 1 A l.length (bvs l) := by
  simp only [bytRow, RT] at h
  obtain ⟨A, c, xs, h1, h2, h3, h4, h5, h6, h7⟩ := h
  obtain rfl := byts_of h7
  refine ⟨A, c, h1, h5, fun hn => ?_⟩
  obtain ⟨ad, h8, h9⟩ := h6 hn
  have hat : ∀ j u, (bvs l)[j]? = some u → w.cell? (ad.add j) = some u := fun j u hj => (hm _ _ (h9 j u hj)).1
  refine ⟨ad, h8, ?_, hat⟩
  obtain ⟨x, hx⟩ : ∃ x, (bvs l)[0]? = some x := ⟨_, List.getElem?_eq_getElem (by rw [bvs_len]; exact hn)⟩
  have := World.block_lt_of_cell? w _ (hat 0 x hx)
  rwa [add_block] at this
theorem strCells_eq (s : ByteArray) : strCells s = bvs s.data.toList := by
  simp [strCells, bvs, bv]
section
variable {P : Program} {F : Frm} {L : Tab} {d : Option Tmp} {ty : TypeId} {pos : String} {aft : Array Edge} {g : Option (Nat × Bool)} {ρ : Operand → AV} {hp : List Blk} {K : AV → List Blk → Prop}
variable {t t' u e : TypeId} {x y : Operand} {k k' : IntKind} {a b : Int}
theorem lo_str {ti tu te : TI} {l : List UInt8} (hL : TabOk P L) (hx : ρ x = .c (bytRow l)) (hu : L.look u = some tu) (hud : tu.d = .slice e) (he : L.look e = some te) (hed : te.d = .int .u8) (ht : L.look t = some ti) (hd : ti.d = .string) (h : K (.c (.lit (.string ⟨l.toArray⟩))) hp) : LO P F ⟨d, .convert u t x, ty, pos, aft, g⟩ ρ hp K := by
  refine LO.same (fun M ev w hev hh => ?_) h
  have h1 := hev x (by first | (simp [Op.operands]; done) | simp [Op.operands, Call.operands])
  rw [hx] at h1
  simp only [RA] at h1
  obtain ⟨A, c, h2, h3⟩ := rd_of_row hh.mem h1
  have := run_string_rd (P := P) u t e (hL.slice hu hud) (hL.int he hed) (hL.string ht hd) c h3
  exact ⟨.string ⟨l.toArray⟩, by simp [execOp, h2, this], by simp only [RA, RT]⟩
theorem lo_bytes {ti tu te : TI} {s : ByteArray} (hL : TabOk P L) (hx : ρ x = .c (.lit (.string s))) (hs : s.size ≤ maxLen) (hu : L.look u = some tu) (hud : tu.d = .string) (ht : L.look t = some ti) (hd : ti.d = .slice e) (he : L.look e = some te) (hed : te.d = .int .u8) (h : K (.c (bytRow s.data.toList)) hp) : LO P F ⟨d, .convert u t x, ty, pos, aft, g⟩ ρ hp K := by
  refine ⟨fun M ev w hev hh => ?_⟩
  have h1 := hev x (by first | (simp [Op.operands]; done) | simp [Op.operands, Call.operands])
  rw [hx] at h1
  simp only [RA, RT] at h1
  obtain ⟨c, w', h2, h3, h4, h5⟩ := run_bytes_rd (P := P) w u t e s.data.toList (hL.string hu hud) (hL.slice ht hd) (hL.int he hed)
  have hsz : s.data.toList.length = s.size := rfl
  have hrun : (execOp ev ⟨d, .convert u t x, ty, pos, aft, g⟩).run P w = .ok (.value (.slice (some ⟨w.heap.size, 0, none⟩) s.data.toList.length c)) w' := by
    simp [execOp, h1] at h2 ⊢
    simp [h2]
  rw [hrun]
  have hm0 := hh.mem.below h5
  have hM := frz_ext (M := M) w.heap.size w'
  refine ⟨frz M w.heap.size w', _, hp, h, (hM.low hh.frm.size), hh.below h5 hM (frz_ok hm0 _), ?_⟩
  simp only [RA, bytRow, RT]
  refine ⟨some ⟨w.heap.size, 0, none⟩, c, bvs s.data.toList, rfl, h3, by rw [hsz]; exact hs, by omega, by rw [bvs_len]; omega, fun hn => ⟨_, rfl, fun j u hj => ?_⟩, rt_byts _⟩
  obtain ⟨ad, e1, _, e2⟩ := h4.2 hn
  injection e1 with e1
  subst e1
  exact frz_new (mem_fresh hh.mem (by rw [add_block]; exact Nat.le_refl _)) (by rw [add_block]; exact Nat.le_refl _) (e2 j u hj) (bvs_one _ u (List.mem_of_getElem? hj))
theorem lo_shl {n : Int} (hx : ρ x = .c (.lit (.int k a))) (hy : ρ y = .c (.lit (.int k' n))) (h0 : 0 ≤ n) {r : Int} (hr : k.wrap (a * 2 ^ (min n.toNat k.bits)) = r) (h : K (.c (.lit (.int k r))) hp) : LO P F ⟨d, .binOp .shl t x y t', ty, pos, aft, g⟩ ρ hp K :=
  lo_bin hx hy guard_int (fun w => by simp only [binOp, Op.shift, if_neg (Int.not_lt.2 h0), hr, Sem.run_pure]) h
theorem lo_shr {n : Int} (hx : ρ x = .c (.lit (.int k a))) (hy : ρ y = .c (.lit (.int k' n))) (h0 : 0 ≤ n) {r : Int} (hr : a.fdiv (2 ^ (min n.toNat k.bits)) = r) (h : K (.c (.lit (.int k r))) hp) : LO P F ⟨d, .binOp .shr t x y t', ty, pos, aft, g⟩ ρ hp K :=
  lo_bin hx hy guard_int (fun w => by simp only [binOp, Op.shift, if_neg (Int.not_lt.2 h0), hr, Sem.run_pure]) h
theorem lo_or (hx : ρ x = .c (.lit (.int k a))) (hy : ρ y = .c (.lit (.int k b))) {r : Int} (hr : k.wrap (((a % 2 ^ k.bits).toNat ||| (b % 2 ^ k.bits).toNat : Nat) : Int) = r) (h : K (.c (.lit (.int k r))) hp) : LO P F ⟨d, .binOp .or t x y t', ty, pos, aft, g⟩ ρ hp K :=
  lo_bin hx hy guard_int (fun w => by simp [binOp, Op.intBits, hr]) h
theorem lo_and (hx : ρ x = .c (.lit (.int k a))) (hy : ρ y = .c (.lit (.int k b))) {r : Int} (hr : k.wrap (((a % 2 ^ k.bits).toNat &&& (b % 2 ^ k.bits).toNat : Nat) : Int) = r) (h : K (.c (.lit (.int k r))) hp) : LO P F ⟨d, .binOp .and t x y t', ty, pos, aft, g⟩ ρ hp K :=
  lo_bin hx hy guard_int (fun w => by simp [binOp, Op.intBits, hr]) h
theorem lo_xor (hx : ρ x = .c (.lit (.int k a))) (hy : ρ y = .c (.lit (.int k b))) {r : Int} (hr : k.wrap (((a % 2 ^ k.bits).toNat ^^^ (b % 2 ^ k.bits).toNat : Nat) : Int) = r) (h : K (.c (.lit (.int k r))) hp) : LO P F ⟨d, .binOp .xor t x y t', ty, pos, aft, g⟩ ρ hp K :=
  lo_bin hx hy guard_int (fun w => by simp [binOp, Op.intBits, hr]) h
theorem lo_app_str {ti tu te : TI} {i n : Nat} {v : Value} {cs : List T} {s : ByteArray} (hL : TabOk P L) (hx : ρ x = .own i v) (hi : hp[i]? = some (.row v e 1 n cs)) (hy : ρ y = .c (.lit (.string s))) (ht : L.look t = some ti) (hd : ti.d = .slice e) (hu : L.look u = some tu) (hud : tu.d = .string) (hte : L.look e = some te) (hsz : te.size = 1) (hby : te.bytes = 1) (hz : te.zero = [.int .u8 0]) (hag : te.agg = false)
    (h63 : n + s.size ≤ 140737488355328) (h : ∀ v', K (.own i v') (hp.set i (.row v' e 1 (n + s.size) (cs ++ byts s.data.toList)))) : LO P F ⟨d, .call { callee := .builtin .append, args := #[x, y], argTypes := #[t, u] }, ty, pos, aft, g⟩ ρ hp K := by
  refine ⟨fun M ev w hev hh => ?_⟩
  have h1 := hev x (by first | (simp [Op.operands]; done) | simp [Op.operands, Call.operands])
  rw [hx] at h1
  simp only [RA] at h1
  have h2 := hev y (by first | (simp [Op.operands]; done) | simp [Op.operands, Call.operands])
  rw [hy] at h2
  simp only [RA, RT] at h2
  obtain ⟨xs, ho, hxs, hone, hsz0⟩ := hh.at_ i _ hi
  obtain ⟨inf, zv, i1, i2, i3, i4, i5, i6, i7⟩ := hL.info hte
  have hzv : zv = .int .u8 0 := by
    rw [hag] at i7
    rw [hz] at i5
    cases zv <;> simp_all [Value.cells]
  have hml : n + s.size ≤ maxLen := by unfold maxLen; omega
  obtain ⟨v', w', g1, g2, g5, g6⟩ := run_append_own_string (P := P) w 0 t u ty e inf (hL.slice ht hd) (hL.string hu hud) i1 (by rw [i4, hzv]) (by rw [i2, hsz]) (by rw [i3, hby]) v n xs ho s hml h63 (Nat.zero_le _)
  have hrun : (execOp ev ⟨d, .call { callee := .builtin .append, args := #[x, y], argTypes := #[t, u] }, ty, pos, aft, g⟩).run P w = .ok (.value v') w' := by
    simp [execOp, resolve, invoke, builtin, h1.1, h2, g1]
  rw [hrun]
  have hwhere : v'.ownBlock = v.ownBlock ∨ v'.ownBlock = some w.heap.size := by
    rcases ho.2 with ⟨rfl, rfl⟩ | ⟨gb, cap, cur, rfl, _, hgb, hnc, hcm, hcs, htake⟩
    · by_cases h0 : s.size = 0
      · exact .inl (by rw [g6.2 ⟨rfl, h0⟩])
      · have hr := run_append_nil_string (P := P) w t u ty e inf zv (hL.slice ht hd) (hL.string hu hud) i1 i4 s (by omega) (by omega) (by rw [i3, hby]; omega)
        rw [hr] at g1
        injection g1 with e1 _
        exact .inr (by rw [← e1]; rfl)
    · by_cases hroom : n + s.size ≤ cap
      · have hcs' : cur.size = cap := by simpa using hcs
        have hr := run_append_room_string (P := P) w t u ty e inf (hL.slice ht hd) (hL.string hu hud) i1 (by rw [i2, hsz]) gb n cap cur hgb s hroom (by omega)
        rw [hr] at g1
        injection g1 with e1 _
        exact .inl (by rw [← e1]; rfl)
      · have hxl : xs.length = n := by simpa using ho.1
        have hr := run_append_grow_string (P := P) w t u ty e inf zv (hL.slice ht hd) (hL.string hu hud) i1 i4 ⟨gb, 0, none⟩ n cap xs (by rw [i2, hsz]; simpa using hxl) (ho.cells (g := gb) rfl) s (by omega) (by omega) (by rw [i3, hby]; have := nextslicecap_le (need := n + s.size) (old := cap) (by omega); omega)
        rw [hr] at g1
        injection g1 with e1 _
        exact .inr (by rw [← e1]; rfl)
  refine ⟨M, _, _, h v', Ext.refl _ _, ?_, by simp only [RA]; exact ⟨trivial, own_one g2⟩⟩
  refine hh.step i g5.os g5.tape g5.output g5.size (fun k hk hne => g5.block k hk (fun e => hne _ hi e.symm)) (Ext.refl _ _) (fun p v h1 h2 => by rw [h2] at h1; cases h1) (fun j hj => by rw [List.getElem?_set_ne (Ne.symm hj)]) (fun x' hx' => ?_)
  have hlt : i < hp.length := (List.getElem?_eq_some_iff.1 hi).1
  rw [List.getElem?_set_self hlt] at hx'
  obtain rfl : Blk.row v' e 1 (n + s.size) (cs ++ byts s.data.toList) = x' := by injection hx'
  rw [strCells_eq] at g2
  refine ⟨⟨_, g2, hxs.app (rt_byts _), hone.app (bvs_one _), by omega⟩, fun b hb => ?_⟩
  rcases hwhere with g6 | g6
  · exact .inl ⟨_, hi, by simpa [Blk.blk, g6] using hb⟩
  · obtain rfl : w.heap.size = b := by simpa [Blk.blk, g6] using hb
    exact .inr ⟨Nat.le_refl _, fun p hp => mem_fresh hh.mem (by omega)⟩
end
end Go.Proofs.YthgackidonocpaaGreat
namespace Go.Proofs.YthgackidonocpaaGreat
open Go.RowKit
section
variable {L : Tab} {σ : AS}
theorem outsA_nil : OutsA L σ [] [] := by simp only [OutsA]
theorem outsA_cons {r : ResultVar} {rs : List ResultVar} {v : AV} {vs : List AV} (h : OutA L σ r v) (h' : OutsA L σ rs vs) : OutsA L σ (r :: rs) (v :: vs) := by simp only [OutsA]; exact ⟨v, vs, rfl, h, h'⟩
theorem outA_tmp {i : Nat} {v : AV} (h : fc (σ.tmps i) = some v) : OutA L σ (.tmp i) v := by simp only [OutA]; exact fc_eq h
theorem outA_agg {a ty i b off : Nat} {tb : TypeId} {cs l : List AV} {ti : TI} (h1 : σ.tmps a = .ptr i b off) (h2 : σ.hp[i]? = some (.box b tb cs)) (h3 : L.look ty = some ti) (h4 : ti.agg = true) (h5 : Nat.ble (off + ti.size) cs.length = true) (h6 : evl ((cs.drop off).take ti.size) = some l) : OutA L σ (.cell a ty) (.agg l) := by
  simp only [OutA]
  refine ⟨i, b, off, tb, cs, ti, h1, h2, h3, ?_⟩
  rw [h4]
  exact ⟨Nat.le_of_ble_eq_true h5, by rw [evl_eq h6]⟩
theorem outA_one {a ty i b off : Nat} {tb : TypeId} {cs : List AV} {v : AV} {ti : TI} (h1 : σ.tmps a = .ptr i b off) (h2 : σ.hp[i]? = some (.box b tb cs)) (h3 : L.look ty = some ti) (h4 : ti.agg = false) (h5 : cs[off]? = some v) : OutA L σ (.cell a ty) v := by
  simp only [OutA]
  refine ⟨i, b, off, tb, cs, ti, h1, h2, h3, ?_⟩
  rw [h4]
  exact h5
theorem zG {res : List ResultVar} {k : Nat} {R : AV → List Blk → Prop} {e : Exit} {vs : List AV} {hq : List Blk} (h : R (outA vs) hq) (he : e = .normal ∨ e = .ret := by first | exact .inl rfl | exact .inr rfl)
    (ho : OutsA L σ res vs := by repeat (first | exact outsA_nil | apply outsA_cons | (apply outA_tmp; (focus exact rfl)) | (apply outA_agg; (focus exact rfl); (focus exact rfl); (focus exact rfl); (focus exact rfl); (focus exact rfl); (focus exact rfl)) | (apply outA_one; (focus exact rfl); (focus exact rfl); (focus exact rfl); (focus exact rfl); (focus exact rfl))))
    (hh : evl (σ.hp.take k) = some hq := by exact rfl) : FinG L res k R e σ := ⟨he, vs, ho, by rw [← evl_eq hh]; exact h⟩
end
section
variable {P : Program} {F : Frm} {L : Tab} {d : Option Tmp} {ty : TypeId} {pos : String} {aft : Array Edge} {g : Option (Nat × Bool)} {ρ : Operand → AV} {hp : List Blk} {K : AV → List Blk → Prop}
theorem zCallG {f : FuncId} {y : Operand} {xs : List Operand} {ats : Array TypeId} {asq cap : List AV} {hs : List Blk} {R : AV → List Blk → Prop} (sel : List Nat) (hc : AG P f asq hs R)
    (h : ∀ r hs2, R r hs2 → ∃ r' hp', Re r r' ∧ Nat.ble sel.length hs2.length = true ∧ evl (putB hp sel hs2) = some hp' ∧ K r' hp') (hy : ρ y = .fn (.func f) cap := by exact rfl)
    (hx : Res (xs.map ρ ++ cap) asq := by repeat (first | exact res_nil | apply res_cons | exact re_own | exact re_ptr | exact re_refl | apply re_cls | exact rzs_nil | apply rzs_cons | exact rz_c | exact rz_nil rfl | apply rz_agg | apply rz_fn | apply rz_tup)) (hsl : selB hp sel = some hs := by exact rfl) (hf : freshB sel = true := by exact rfl) :
    LO P F ⟨d, .call { callee := .value y, args := xs.toArray, argTypes := ats }, ty, pos, aft, g⟩ ρ hp K :=
  lo_callG sel hc (fun M u hu => by rw [hy] at hu; simpa only [RA] using hu) hx hsl hf fun r hs2 hR => by
    obtain ⟨r', hp', h1, h2, h3, h4⟩ := h r hs2 hR
    exact ⟨r', h1, Nat.le_of_ble_eq_true h2, by rw [← evl_eq h3]; exact h4⟩
/-- a function value that came in -/
theorem zCallGc {f : FuncId} {y : Operand} {xs : List Operand} {ats : Array TypeId} {asq : List AV} {cap : List T} {hs : List Blk} {R : AV → List Blk → Prop} (sel : List Nat) (hc : AG P f asq hs R)
    (h : ∀ r hs2, R r hs2 → ∃ r' hp', Re r r' ∧ Nat.ble sel.length hs2.length = true ∧ evl (putB hp sel hs2) = some hp' ∧ K r' hp') (hy : ρ y = .c (.fn (.func f) cap) := by exact rfl)
    (hx : Res (xs.map ρ ++ cap.map .c) asq := by repeat (first | exact res_nil | apply res_cons | exact re_own | exact re_ptr | exact re_refl | apply re_cls | exact rzs_nil | apply rzs_cons | exact rz_c | exact rz_nil rfl | apply rz_agg | apply rz_fn | apply rz_tup)) (hsl : selB hp sel = some hs := by exact rfl) (hf : freshB sel = true := by exact rfl) :
    LO P F ⟨d, .call { callee := .value y, args := xs.toArray, argTypes := ats }, ty, pos, aft, g⟩ ρ hp K :=
  lo_callG sel hc (fun M u hu => by
    rw [hy] at hu
    simp only [RA, RT] at hu
    obtain ⟨cs, h1, h2⟩ := hu
    exact ⟨cs, h1, RAs.ofT h2⟩) hx hsl hf fun r hs2 hR => by
    obtain ⟨r', hp', h1, h2, h3, h4⟩ := h r hs2 hR
    exact ⟨r', h1, Nat.le_of_ble_eq_true h2, by rw [← evl_eq h3]; exact h4⟩
variable {t u e : TypeId} {x y : Operand} {ti tu te : TI} {cs : List T} {n i : Nat} {v : Value} {e' : TypeId}
theorem zStr (l : List UInt8) (hc : cs = byts l) (hn : n = l.length) (h : K (.c (.lit (.string ⟨l.toArray⟩))) hp) (hL : TabOk P L := by exact tok) (hx : ρ x = .c (.row n 1 cs) := by exact rfl) (hu : L.look u = some tu := by exact rfl) (hud : tu.d = .slice e := by exact rfl) (he : L.look e = some te := by exact rfl) (hed : te.d = .int .u8 := by exact rfl) (ht : L.look t = some ti := by exact rfl) (hd : ti.d = .string := by exact rfl) :
    LO P F ⟨d, .convert u t x, ty, pos, aft, g⟩ ρ hp K := lo_str hL (by rw [hx, hc, hn]; rfl) hu hud he hed ht hd h
theorem zByt {s : ByteArray} (hs : s.size ≤ maxLen) (h : K (.c (bytRow s.data.toList)) hp) (hL : TabOk P L := by exact tok) (hx : ρ x = .c (.lit (.string s)) := by exact rfl) (hu : L.look u = some tu := by exact rfl) (hud : tu.d = .string := by exact rfl) (ht : L.look t = some ti := by exact rfl) (hd : ti.d = .slice e := by exact rfl) (he : L.look e = some te := by exact rfl) (hed : te.d = .int .u8 := by exact rfl) :
    LO P F ⟨d, .convert u t x, ty, pos, aft, g⟩ ρ hp K := lo_bytes hL hx hs hu hud ht hd he hed h
theorem zAps {s : ByteArray} {hp' : Value → List Blk} (h63 : n + s.size ≤ 140737488355328) (h : ∀ v', K (.own i v') (hp' v')) (hL : TabOk P L := by exact tok) (hx : ρ x = .own i v := by exact rfl) (hi : hp[i]? = some (.row v e 1 n cs) := by exact rfl) (hy : ρ y = .c (.lit (.string s)) := by exact rfl) (ht : L.look t = some ti := by exact rfl) (hd : ti.d = .slice e := by exact rfl) (hu : L.look u = some tu := by exact rfl) (hud : tu.d = .string := by exact rfl) (hte : L.look e = some te := by exact rfl) (hsz : te.size = 1 := by exact rfl) (hby : te.bytes = 1 := by exact rfl) (hz : te.zero = [.int .u8 0] := by exact rfl) (hag : te.agg = false := by exact rfl)
    (hf : ∀ v', evl (hp.set i (.row v' e 1 (n + s.size) (cs ++ byts s.data.toList))) = some (hp' v') := by exact fun _ => rfl) : LO P F ⟨d, .call { callee := .builtin .append, args := #[x, y], argTypes := #[t, u] }, ty, pos, aft, g⟩ ρ hp K :=
  lo_app_str hL hx hi hy ht hd hu hud hte hsz hby hz hag h63 fun v' => by rw [← evl_eq (hf v')]; exact h v'
end
end Go.Proofs.YthgackidonocpaaGreat
namespace Go.Proofs.YthgackidonocpaaGreat
open Go.RowKit
def bs (l : List UInt8) : ByteArray := ⟨l.toArray⟩
theorem bs_app (a b : List UInt8) : bs a ++ bs b = bs (a ++ b) := by
  apply ByteArray.ext
  simp [bs]
theorem bs_self (s : ByteArray) : bs s.data.toList = s := by cases s; rfl
theorem bs_size' (l : List UInt8) : (bs l).size = l.length := by simp [bs, ByteArray.size]
theorem sz_len (s : ByteArray) : s.data.toList.length = s.size := by cases s; simp [ByteArray.size]
theorem bs_inj {a b : List UInt8} (h : bs a = bs b) : a = b := by
  have := congrArg (fun s : ByteArray => s.data.toList) h
  simpa [bs] using this
section
variable {P : Program} {F : Frm} {L : Tab} {d : Option Tmp} {ty : TypeId} {pos : String} {aft : Array Edge} {g : Option (Nat × Bool)} {ρ : Operand → AV} {hp : List Blk} {K : AV → List Blk → Prop}
theorem zBo {t el : TypeId} {ti te : TI} {n k : Nat} {parts : List (Nat × Operand)} {cs cs' : List AV} {ts : List T} {hp' : Value → List Blk} (h : ∀ v, K (.own k v) (hp' v)) (hL : TabOk P L := by exact tok) (ht : L.look t = some ti := by exact rfl) (hd : ti.d = .slice el := by exact rfl) (hte : L.look el = some te := by exact rfl) (h0 : Nat.ble 1 te.size = true := by exact rfl) (hn : Nat.ble (n * te.size) 16777216 = true := by exact rfl)
    (hf : fillA (fun i => some (i * te.size, te.size)) ((List.range (n * te.size)).map fun j => .c (.lit (te.zero.getD (j % te.size) undef))) (parts.map fun p => (p.1, ρ p.2)) = some cs := by exact rfl) (he : evl cs = some cs' := by exact rfl) (hz : Rzs [] cs' ts := by repeat (first | exact rzs_nil | apply rzs_cons | exact rz_c | exact rz_nil rfl | apply rz_agg | exact rz_own rfl | apply rz_fn | exact rz_ptr rfl | apply rz_tup)) (hk : lenU hp = some k := by exact rfl) (hq : ∀ v, evl (hp ++ [.row v el te.size n ts]) = some (hp' v) := by exact fun _ => rfl) :
    LO P F ⟨d, .buildSlice t n parts.toArray, ty, pos, aft, g⟩ ρ hp K := v_bslice_own hL ht hd hte h0 hn hf he hz hk hq h
theorem zCatb {t t' : TypeId} {x y : Operand} (a b : List UInt8) (hb : a.length + b.length ≤ 9223372036854775807) (h : K (.c (.lit (.string (bs (a ++ b))))) hp) (hx : ρ x = .c (.lit (.string (bs a))) := by exact rfl) (hy : ρ y = .c (.lit (.string (bs b))) := by exact rfl) : LO P F ⟨d, .binOp .add t x y t', ty, pos, aft, g⟩ ρ hp K :=
  lo_cat hx hy (by rw [bs_size', bs_size']; exact hb) (by rw [bs_app]; exact h)
end
/-- a function that grows a row of the caller's own, given nil -/
theorem ag_nil {P : Program} {f : FuncId} {asq : List AV} {e : TypeId} {sz : Nat} {R : AV → List Blk → Prop} (h0 : 0 < sz) (h : AG P f (.own 0 (.slice none 0 0) :: asq) [.row (.slice none 0 0) e sz 0 []] R) : AG P f (.c (.lit (.slice none 0 0)) :: asq) [] R := by
  refine ⟨h.1, fun F M w vs hh hv => ?_⟩
  refine h.2 F M w vs (push_row hh rfl rfl rfl (Nat.le_refl _) (fun _ _ => rfl) (Ext.refl _ _) (fun p v h1 h2 => by rw [h2] at h1; cases h1) ⟨[], World.ownsRow_nil _ _ _ _, by simp only [RTs], fun x hx => by simp at hx, h0⟩ (fun b hb => by simp [Blk.blk, Value.ownBlock] at hb)) ?_
  simp only [RAs] at hv ⊢
  obtain ⟨x, r, e1, h1, h2⟩ := hv
  simp only [RA, RT] at h1
  exact ⟨x, r, e1, by simp only [RA]; exact ⟨h1, rfl⟩, h2⟩
end Go.Proofs.YthgackidonocpaaGreat
namespace Go.Proofs.YthgackidonocpaaGreat
set_option maxRecDepth 100000 in
def tab : Tab :=
  (.node 94 ⟨1, 8, [.nilFunc], .other⟩ (.node 47 ⟨1, 24, [.slice none 0 0], (.slice 122)⟩ (.node 21 ⟨1, 4, [.int .i32 0], (.int .i32)⟩ (.node 11 ⟨1, 16, [.string ⟨#[]⟩], .string⟩ (.node 6 ⟨1, 1, [.int .u8 0], (.int .u8)⟩ (.node 3 ⟨1, 8, [.int .i64 0], (.int .i64)⟩ (.node 2 ⟨1, 8, [.int .i64 0], (.int .i64)⟩ (.node 1 ⟨1, 8, [.nilFunc], .other⟩ .nil .nil) .nil) (.node 5 ⟨1, 1, [.int .u8 0], (.int .u8)⟩ (.node 4 ⟨1, 1, [.bool false], .bool⟩ .nil .nil) .nil)) (.node 9 ⟨1, 16, [.string ⟨#[]⟩], .string⟩ (.node 8 ⟨4, 24, [.int .i64 0, .int .i64 0, .bool false, .int .u8 0], (.struct [(0, 1), (1, 1), (2, 1), (3, 1)])⟩ (.node 7 ⟨4, 24, [.int .i64 0, .int .i64 0, .bool false, .int .u8 0], (.struct [(0, 1), (1, 1), (2, 1), (3, 1)])⟩ .nil .nil) .nil) (.node 10 ⟨1, 16, [.string ⟨#[]⟩], .string⟩ .nil .nil))) (.node 16 ⟨1, 8, [.pointer none], .other⟩ (.node 14 ⟨2, 24, [.string ⟨#[]⟩, .int .u64 0], (.struct [(0, 1), (1, 1)])⟩ (.node 13 ⟨2, 24, [.string ⟨#[]⟩, .int .u64 0], (.struct [(0, 1), (1, 1)])⟩ (.node 12 ⟨1, 8, [.int .u64 0], (.int .u64)⟩ .nil .nil) .nil) (.node 15 ⟨1, 8, [.pointer none], .other⟩ .nil .nil)) (.node 19 ⟨1, 8, [.pointer none], (.struct [(0, 1)])⟩ (.node 18 ⟨1, 8, [.pointer none], (.struct [(0, 1)])⟩ (.node 17 ⟨1, 8, [.pointer none], .other⟩ .nil .nil) .nil) (.node 20 ⟨1, 16, [.nilIface], .other⟩ .nil .nil)))) (.node 34 ⟨1, 8, [.nilFunc], .other⟩ (.node 27 ⟨1, 8, [.int .i64 0], (.int .i64)⟩ (.node 24 ⟨1, 24, [.slice none 0 0], (.slice 57)⟩ (.node 23 ⟨1, 24, [.slice none 0 0], (.slice 53)⟩ (.node 22 ⟨1, 24, [.slice none 0 0], (.slice 5)⟩ .nil .nil) .nil) (.node 26 ⟨3, 56, [.int .i64 0, .slice none 0 0, .slice none 0 0], (.struct [(0, 1), (1, 1), (2, 1)])⟩ (.node 25 ⟨3, 56, [.int .i64 0, .slice none 0 0, .slice none 0 0], (.struct [(0, 1), (1, 1), (2, 1)])⟩ .nil .nil) .nil)) (.node 31 ⟨1, 8, [.nilFunc], .other⟩ (.node 30 ⟨1, 8, [.nilFunc], .other⟩ (.node 29 ⟨1, 8, [.nilFunc], .other⟩ .nil .nil) .nil) (.node 33 ⟨1, 8, [.nilFunc], .other⟩ .nil .nil))) (.node 41 ⟨1, 8, [.nilFunc], .other⟩ (.node 38 ⟨1, 8, [.int .u64 0], (.int .u64)⟩ (.node 37 ⟨1, 8, [.nilFunc], .other⟩ (.node 36 ⟨1, 8, [.nilFunc], .other⟩ .nil .nil) .nil) (.node 39 ⟨1, 8, [.nilFunc], .other⟩ .nil .nil)) (.node 45 ⟨1, 8, [.nilFunc], .other⟩ (.node 43 ⟨1, 24, [.slice none 0 0], (.slice 9)⟩ (.node 42 ⟨1, 8, [.nilFunc], .other⟩ .nil .nil) .nil) (.node 46 ⟨1, 24, [.slice none 0 0], (.slice 61)⟩ .nil .nil))))) (.node 71 ⟨1, 8, [.nilFunc], .other⟩ (.node 60 ⟨4, 56, [.int .i64 0, .int .i64 0, .string ⟨#[]⟩, .slice none 0 0], (.struct [(0, 1), (1, 1), (2, 1), (3, 1)])⟩ (.node 53 ⟨8, 152, [.int .i64 0, .string ⟨#[]⟩, .slice none 0 0, .slice none 0 0, .slice none 0 0, .int .i64 0, .slice none 0 0, .slice none 0 0], (.struct [(0, 1), (1, 3), (4, 1), (5, 1), (6, 1), (7, 1)])⟩ (.node 50 ⟨1, 24, [.slice none 0 0], (.slice 63)⟩ (.node 49 ⟨3, 64, [.string ⟨#[]⟩, .slice none 0 0, .slice none 0 0], (.struct [(0, 1), (1, 1), (2, 1)])⟩ (.node 48 ⟨3, 64, [.string ⟨#[]⟩, .slice none 0 0, .slice none 0 0], (.struct [(0, 1), (1, 1), (2, 1)])⟩ .nil .nil) .nil) (.node 52 ⟨8, 152, [.int .i64 0, .string ⟨#[]⟩, .slice none 0 0, .slice none 0 0, .slice none 0 0, .int .i64 0, .slice none 0 0, .slice none 0 0], (.struct [(0, 1), (1, 3), (4, 1), (5, 1), (6, 1), (7, 1)])⟩ (.node 51 ⟨1, 24, [.slice none 0 0], (.slice 3)⟩ .nil .nil) .nil)) (.node 57 ⟨3, 40, [.int .i64 0, .int .i64 0, .slice none 0 0], (.struct [(0, 1), (1, 1), (2, 1)])⟩ (.node 56 ⟨3, 40, [.int .i64 0, .int .i64 0, .slice none 0 0], (.struct [(0, 1), (1, 1), (2, 1)])⟩ (.node 55 ⟨1, 8, [.nilFunc], .other⟩ .nil .nil) .nil) (.node 59 ⟨1, 8, [.nilFunc], .other⟩ .nil .nil))) (.node 66 ⟨1, 8, [.nilFunc], .other⟩ (.node 63 ⟨9, 104, [.int .i64 0, .int .i64 0, .int .i64 0, .int .i64 0, .string ⟨#[]⟩, .int .i64 0, .int .i64 0, .string ⟨#[]⟩, .slice none 0 0], (.struct [(0, 1), (1, 1), (2, 1), (3, 1), (4, 1), (5, 4)])⟩ (.node 62 ⟨9, 104, [.int .i64 0, .int .i64 0, .int .i64 0, .int .i64 0, .string ⟨#[]⟩, .int .i64 0, .int .i64 0, .string ⟨#[]⟩, .slice none 0 0], (.struct [(0, 1), (1, 1), (2, 1), (3, 1), (4, 1), (5, 4)])⟩ (.node 61 ⟨4, 56, [.int .i64 0, .int .i64 0, .string ⟨#[]⟩, .slice none 0 0], (.struct [(0, 1), (1, 1), (2, 1), (3, 1)])⟩ .nil .nil) .nil) (.node 65 ⟨1, 8, [.nilFunc], .other⟩ .nil .nil)) (.node 69 ⟨1, 8, [.nilFunc], .other⟩ (.node 68 ⟨1, 8, [.nilFunc], .other⟩ (.node 67 ⟨1, 8, [.nilFunc], .other⟩ .nil .nil) .nil) (.node 70 ⟨1, 8, [.nilFunc], .other⟩ .nil .nil)))) (.node 83 ⟨1, 8, [.nilFunc], .other⟩ (.node 78 ⟨1, 8, [.nilFunc], .other⟩ (.node 75 ⟨1, 8, [.nilFunc], .other⟩ (.node 74 ⟨1, 24, [.slice none 0 0], (.slice 26)⟩ (.node 73 ⟨1, 8, [.nilFunc], .other⟩ .nil .nil) .nil) (.node 77 ⟨1, 8, [.nilFunc], .other⟩ (.node 76 ⟨1, 8, [.nilFunc], .other⟩ .nil .nil) .nil)) (.node 81 ⟨1, 8, [.nilFunc], .other⟩ (.node 80 ⟨1, 8, [.nilFunc], .other⟩ (.node 79 ⟨1, 8, [.nilFunc], .other⟩ .nil .nil) .nil) (.node 82 ⟨1, 8, [.nilFunc], .other⟩ .nil .nil))) (.node 89 ⟨1, 8, [.nilFunc], .other⟩ (.node 87 ⟨1, 8, [.nilFunc], .other⟩ (.node 85 ⟨1, 8, [.nilFunc], .other⟩ (.node 84 ⟨1, 24, [.slice none 0 0], (.slice 22)⟩ .nil .nil) .nil) (.node 88 ⟨1, 8, [.nilFunc], .other⟩ .nil .nil)) (.node 92 ⟨2, 32, [.slice none 0 0, .bool false], (.struct [(0, 1), (1, 1)])⟩ (.node 91 ⟨2, 32, [.slice none 0 0, .bool false], (.struct [(0, 1), (1, 1)])⟩ (.node 90 ⟨1, 8, [.pointer none], .other⟩ .nil .nil) .nil) (.node 93 ⟨1, 8, [.nilFunc], .other⟩ .nil .nil)))))) (.node 137 ⟨1, 8, [.nilFunc], .other⟩ (.node 116 ⟨1, 8, [.nilFunc], .other⟩ (.node 105 ⟨1, 8, [.nilFunc], .other⟩ (.node 100 ⟨1, 8, [.nilFunc], .other⟩ (.node 97 ⟨1, 8, [.nilFunc], .other⟩ (.node 96 ⟨1, 8, [.nilFunc], .other⟩ (.node 95 ⟨1, 8, [.nilFunc], .other⟩ .nil .nil) .nil) (.node 99 ⟨1, 8, [.nilFunc], .other⟩ (.node 98 ⟨1, 8, [.nilFunc], .other⟩ .nil .nil) .nil)) (.node 103 ⟨1, 8, [.nilFunc], .other⟩ (.node 102 ⟨1, 8, [.nilFunc], .other⟩ (.node 101 ⟨1, 8, [.nilFunc], .other⟩ .nil .nil) .nil) (.node 104 ⟨1, 8, [.int .u64 0], (.int .u64)⟩ .nil .nil))) (.node 110 ⟨1, 8, [.nilFunc], .other⟩ (.node 108 ⟨1, 8, [.nilFunc], .other⟩ (.node 107 ⟨1, 24, [.slice none 0 0], (.slice 51)⟩ (.node 106 ⟨1, 8, [.nilFunc], .other⟩ .nil .nil) .nil) (.node 109 ⟨1, 8, [.nilFunc], .other⟩ .nil .nil)) (.node 114 ⟨1, 8, [.nilFunc], .other⟩ (.node 112 ⟨1, 8, [.pointer none], .other⟩ (.node 111 ⟨1, 8, [.nilFunc], .other⟩ .nil .nil) .nil) (.node 115 ⟨1, 8, [.nilFunc], .other⟩ .nil .nil)))) (.node 127 ⟨1, 8, [.nilFunc], .other⟩ (.node 122 ⟨5, 64, [.int .i64 0, .int .i64 0, .int .i64 0, .string ⟨#[]⟩, .slice none 0 0], (.struct [(0, 1), (1, 4)])⟩ (.node 119 ⟨1, 8, [.nilFunc], .other⟩ (.node 118 ⟨1, 8, [.nilFunc], .other⟩ (.node 117 ⟨1, 8, [.nilFunc], .other⟩ .nil .nil) .nil) (.node 121 ⟨5, 64, [.int .i64 0, .int .i64 0, .int .i64 0, .string ⟨#[]⟩, .slice none 0 0], (.struct [(0, 1), (1, 4)])⟩ (.node 120 ⟨1, 8, [.nilFunc], .other⟩ .nil .nil) .nil)) (.node 125 ⟨1, 8, [.nilFunc], .other⟩ (.node 124 ⟨1, 8, [.nilFunc], .other⟩ (.node 123 ⟨1, 8, [.nilFunc], .other⟩ .nil .nil) .nil) (.node 126 ⟨1, 8, [.nilFunc], .other⟩ .nil .nil))) (.node 132 ⟨3, 40, [.slice none 0 0, .bool false, .int .i64 0], (.struct [(0, 2), (2, 1)])⟩ (.node 130 ⟨2, 32, [.slice none 0 0, .bool false], (.struct [(0, 1), (1, 1)])⟩ (.node 129 ⟨1, 8, [.nilFunc], .other⟩ (.node 128 ⟨1, 8, [.nilFunc], .other⟩ .nil .nil) .nil) (.node 131 ⟨2, 32, [.slice none 0 0, .bool false], (.struct [(0, 1), (1, 1)])⟩ .nil .nil)) (.node 135 ⟨1, 8, [.nilFunc], .other⟩ (.node 134 ⟨1, 8, [.nilFunc], .other⟩ (.node 133 ⟨3, 40, [.slice none 0 0, .bool false, .int .i64 0], (.struct [(0, 2), (2, 1)])⟩ .nil .nil) .nil) (.node 136 ⟨1, 8, [.pointer none], .other⟩ .nil .nil))))) (.node 158 ⟨1, 8, [.nilFunc], .other⟩ (.node 148 ⟨5, 64, [.int .i64 0, .int .i64 0, .string ⟨#[]⟩, .slice none 0 0, .int .i64 0], (.struct [(0, 4), (4, 1)])⟩ (.node 143 ⟨1, 8, [.nilFunc], .other⟩ (.node 140 ⟨1, 8, [.nilFunc], .other⟩ (.node 139 ⟨1, 8, [.nilFunc], .other⟩ (.node 138 ⟨1, 8, [.nilFunc], .other⟩ .nil .nil) .nil) (.node 142 ⟨1, 8, [.nilFunc], .other⟩ (.node 141 ⟨1, 8, [.nilFunc], .other⟩ .nil .nil) .nil)) (.node 146 ⟨1, 8, [.nilFunc], .other⟩ (.node 145 ⟨1, 8, [.nilFunc], .other⟩ (.node 144 ⟨1, 8, [.nilFunc], .other⟩ .nil .nil) .nil) (.node 147 ⟨1, 8, [.pointer none], .other⟩ .nil .nil))) (.node 153 ⟨1, 8, [.nilFunc], .other⟩ (.node 151 ⟨1, 8, [.nilFunc], .other⟩ (.node 150 ⟨1, 24, [.slice none 0 0], (.slice 149)⟩ (.node 149 ⟨5, 64, [.int .i64 0, .int .i64 0, .string ⟨#[]⟩, .slice none 0 0, .int .i64 0], (.struct [(0, 4), (4, 1)])⟩ .nil .nil) .nil) (.node 152 ⟨1, 8, [.nilFunc], .other⟩ .nil .nil)) (.node 156 ⟨1, 8, [.nilFunc], .other⟩ (.node 155 ⟨1, 8, [.nilFunc], .other⟩ (.node 154 ⟨1, 8, [.nilFunc], .other⟩ .nil .nil) .nil) (.node 157 ⟨1, 8, [.nilFunc], .other⟩ .nil .nil)))) (.node 168 ⟨0, 0, [], (.struct [(0, 0)])⟩ (.node 163 ⟨1, 8, [.nilFunc], .other⟩ (.node 161 ⟨1, 8, [.nilFunc], .other⟩ (.node 160 ⟨1, 8, [.nilFunc], .other⟩ (.node 159 ⟨1, 8, [.nilFunc], .other⟩ .nil .nil) .nil) (.node 162 ⟨1, 8, [.nilFunc], .other⟩ .nil .nil)) (.node 166 ⟨0, 0, [], (.array 0 16)⟩ (.node 165 ⟨4, 40, [.pointer none, .pointer none, .pointer none, .string ⟨#[]⟩], (.struct [(0, 1), (1, 1), (2, 1), (3, 1)])⟩ (.node 164 ⟨4, 40, [.pointer none, .pointer none, .pointer none, .string ⟨#[]⟩], (.struct [(0, 1), (1, 1), (2, 1), (3, 1)])⟩ .nil .nil) .nil) (.node 167 ⟨0, 0, [], (.struct [(0, 0)])⟩ .nil .nil))) (.node 173 ⟨1, 8, [.pointer none], .other⟩ (.node 171 ⟨1, 1, [.int .u8 0], (.int .u8)⟩ (.node 170 ⟨1, 1, [.int .u8 0], (.int .u8)⟩ (.node 169 ⟨1, 4, [.int .u32 0], (.int .u32)⟩ .nil .nil) .nil) (.node 172 ⟨1, 8, [.nilFunc], .other⟩ .nil .nil)) (.node 176 ⟨11, 48, [.int .u64 0, .int .u64 0, .int .u32 0, .int .u8 0, .int .u8 0, .int .u8 0, .int .u8 0, .nilFunc, .pointer none, .int .i32 0, .int .i32 0], (.struct [(0, 1), (1, 1), (2, 1), (3, 1), (4, 1), (5, 1), (6, 1), (7, 1), (8, 1), (9, 1), (10, 1)])⟩ (.node 175 ⟨1, 4, [.int .i32 0], (.int .i32)⟩ (.node 174 ⟨1, 4, [.int .i32 0], (.int .i32)⟩ .nil .nil) .nil) (.node 177 ⟨11, 48, [.int .u64 0, .int .u64 0, .int .u32 0, .int .u8 0, .int .u8 0, .int .u8 0, .int .u8 0, .nilFunc, .pointer none, .int .i32 0, .int .i32 0], (.struct [(0, 1), (1, 1), (2, 1), (3, 1), (4, 1), (5, 1), (6, 1), (7, 1), (8, 1), (9, 1), (10, 1)])⟩ .nil .nil)))))))
set_option maxRecDepth 100000 in
theorem tabOkB : tab.okB Tryz.prog = true := by kernel_rfl
theorem tok : TabOk Tryz.prog tab := tab_ok tabOkB
end Go.Proofs.YthgackidonocpaaGreat
namespace Go.Proofs.YthgackidonocpaaGreat
open Go.RowKit
/-- a number in groups of seven bits -/
def uv (n : Nat) : List UInt8 := if h : n < 128 then [UInt8.ofNat n] else UInt8.ofNat (n % 128 + 128) :: uv (n / 128)
theorem uv_small {n : Nat} (h : n < 128) : uv n = [UInt8.ofNat n] := by rw [uv, dif_pos h]
theorem uv_big {n : Nat} (h : ¬ n < 128) : uv n = UInt8.ofNat (n % 128 + 128) :: uv (n / 128) := by rw [uv, dif_neg h]
theorem uv_len : ∀ (k n : Nat), n < 128 ^ k → (uv n).length ≤ max k 1
  | 0, n, h => by
    have : n = 0 := by simpa using h
    subst this
    rw [uv_small (by omega)]
    simp
  | k + 1, n, h => by
    by_cases hn : n < 128
    · rw [uv_small hn]; simp
    · rw [uv_big hn]
      have h1 : n / 128 < 128 ^ k := by
        rw [Nat.div_lt_iff_lt_mul (by omega)]
        rwa [Nat.pow_succ] at h
      have h2 := uv_len k (n / 128) h1
      have h3 : 0 < k := by
        rcases Nat.eq_zero_or_pos k with rfl | hk
        · simp at h1; omega
        · exact hk
      simp only [List.length_cons]
      omega
theorem uv_len64 {n : Nat} (h : n < 2 ^ 64) : (uv n).length ≤ 10 := by
  have := uv_len 10 n (by have : (2 : Nat) ^ 64 ≤ 128 ^ 10 := by decide
                          omega)
  simpa using this
theorem u8_of {n : Nat} (h : n < 256) : T.lit (.int .u8 ((n : Nat) : Int)) = bytT (UInt8.ofNat n) := by
  unfold bytT
  rw [UInt8.toNat_ofNat', Nat.mod_eq_of_lt (by simpa using h)]
theorem or128 : ∀ x : Nat, x < 256 → x ||| 128 = x % 128 + 128 := by decide +kernel
theorem wrap_u8 (u : Nat) : IntKind.u8.wrap (u : Int) = ((u % 256 : Nat) : Int) := by
  simp [IntKind.wrap, IntKind.bits, IntKind.signed]
theorem or_u8 (u : Nat) : IntKind.u8.wrap ((((u % 256 : Nat) : Int) % 2 ^ IntKind.u8.bits).toNat ||| ((128 : Int) % 2 ^ IntKind.u8.bits).toNat : Nat) = ((u % 128 + 128 : Nat) : Int) := by
  have h1 : ((((u % 256 : Nat) : Int) % 2 ^ IntKind.u8.bits).toNat ||| ((128 : Int) % 2 ^ IntKind.u8.bits).toNat : Nat) = u % 128 + 128 := by
    have h2 : (((u % 256 : Nat) : Int) % 2 ^ IntKind.u8.bits).toNat = u % 256 := by simp [IntKind.bits]; omega
    have h3 : ((128 : Int) % 2 ^ IntKind.u8.bits).toNat = 128 := rfl
    rw [h2, h3, or128 _ (by omega)]
    omega
  rw [h1, wrap_u8]
  congr 1
  omega
theorem shr7 (u : Nat) : (u : Int).fdiv (2 ^ (min (7 : Int).toNat IntKind.u64.bits)) = ((u / 128 : Nat) : Int) := by
  have : (2 : Int) ^ (min (7 : Int).toNat IntKind.u64.bits) = 128 := rfl
  rw [this, Int.fdiv_eq_ediv_of_nonneg _ (by omega)]
  omega
/-- what an own row of bytes is once more bytes were appended -/
def Grew (e : TypeId) (l : List UInt8) (r : AV) (hs : List Blk) : Prop := ∃ v', r = .own 0 v' ∧ hs = [.row v' e 1 l.length (byts l)]
set_option maxRecDepth 100000 in
set_option maxHeartbeats 2000000 in
theorem unsigned_ag (v : Value) (l : List UInt8) (n : Nat) (hn : n < 2 ^ 64) (hl : l.length ≤ 1099511627776) :
    AG Tryz.prog 117 [.own 0 v, .c (.lit (.int .u64 (n : Int)))] [.row v 5 1 l.length (byts l)] (Grew 5 (l ++ uv n)) := by
  have hul := uv_len64 hn
  refine ag_enter 1 tok Tryz.func117 Tryz.ntmps117 Tryz.results117 rfl (by kernel_rfl) rfl fun F => ?_
  repeat (first | refine gG ?_ | refine zAp (fun _ => ?_))
  refine x_loop [0, 1, 5, 6, 7, 8, 9, 10, 11, 12, 13, 14] (fun y : Nat × List UInt8 × Value => [(1, .c (.lit (.int .u64 (y.1 : Int)))), (0, .own 0 y.2.2)]) (fun y => [.row y.2.2 5 1 y.2.1.length (byts y.2.1)])
    (fun y => y.1 < 2 ^ 64 ∧ y.2.1 ++ uv y.1 = l ++ uv n) (fun y => y.1) (n, l, v) ⟨hn, rfl⟩ ⟨rfl, rfl, trivial⟩ rfl ?_
  rintro ⟨u, l', v'⟩ ⟨hu, hinv⟩
  dsimp only at hu hinv ⊢
  have hlen : l'.length + (uv u).length ≤ 1099511627786 := by
    have := congrArg List.length hinv
    simp only [List.length_append] at this
    omega
  repeat (first | refine gG ?_ | refine zAp (fun _ => ?_))
  refine x_cond rfl (fun h => ?_) (fun h => ?_)
  · have hu' : ¬ u < 128 := by have : (128 : Int) ≤ (u : Int) := of_decide_eq_true h
                               omega
    rw [uv_big hu'] at hinv hlen
    simp only [List.length_cons] at hlen
    repeat (first | refine gG ?_ | refine zAp (fun _ => ?_))
    refine lo_conv tok rfl rfl rfl rfl (wrap_u8 u) ?_
    repeat (first | refine gG ?_ | refine zAp (fun _ => ?_))
    refine lo_or rfl rfl (or_u8 u) ?_
    repeat (first | refine gG ?_ | refine zAp (fun _ => ?_))
    refine lo_shr rfl rfl (by omega) (shr7 u) ?_
    repeat (first | refine gG ?_ | refine zAp (fun _ => ?_))
    exact ⟨(u / 128, l' ++ [UInt8.ofNat (u % 128 + 128)], _), ⟨by simp only; omega, by simpa using hinv⟩, by simp only; omega, x_wkd 1 ⟨rfl, rfl, trivial⟩ (by simp only [byts, List.map_append, List.map_cons, List.map_nil, ← u8_of (show u % 128 + 128 < 256 by omega), List.length_append, List.length_cons, List.length_nil]; rfl) (by repeat (first | exact ag_refl | refine ag_upd rfl ?_ | refine ag_at rfl rfl ?_))⟩
  · have hu' : u < 128 := by have : ¬ (128 : Int) ≤ (u : Int) := of_decide_eq_false h
                             omega
    rw [uv_small hu'] at hinv hlen
    simp only [List.length_cons, List.length_nil] at hlen
    repeat (first | refine gG ?_ | refine zAp (fun _ => ?_))
    refine lo_conv tok rfl rfl rfl rfl (wrap_u8 u) ?_
    repeat (first | refine gG ?_ | refine zAp (fun _ => ?_))
    refine zG ?_
    refine ⟨_, rfl, ?_⟩
    rw [← hinv]
    have hb : T.lit (.int .u8 ((u % 256 : Nat) : Int)) = bytT (UInt8.ofNat u) := by rw [Nat.mod_eq_of_lt (by omega)]; exact u8_of (by omega)
    simp only [byts, List.map_append, List.map_cons, List.map_nil, ← hb, List.length_append, List.length_cons, List.length_nil]
end Go.Proofs.YthgackidonocpaaGreat
namespace Go.Proofs.YthgackidonocpaaGreat
open Go.RowKit
inductive V where
  | mk (kind num : Int) (text : ByteArray) (args : List V)
mutual
def V.ts : V → List T
  | .mk k n t l => [.lit (.int .i64 k), .lit (.int .i64 n), .lit (.string t), .row l.length 4 (V.all l)]
def V.all : List V → List T
  | [] => []
  | v :: r => v.ts ++ V.all r
end
theorem V.all_eq : ∀ l : List V, V.all l = l.flatMap V.ts
  | [] => rfl
  | v :: l => by rw [V.all, V.all_eq l]; rfl
theorem V.ts_len : ∀ v : V, v.ts.length = 4
  | .mk _ _ _ _ => rfl
def V.row (l : List V) : T := .row l.length 4 (V.all l)
def V.t (v : V) : T := .agg v.ts
mutual
def V.same : V → V → Bool
  | .mk k n t l, .mk k' n' t' l' => decide (k = k') && decide (n = n') && decide (t = t') && V.sames l l'
def V.sames : List V → List V → Bool
  | [], [] => true
  | v :: l, v' :: l' => v.same v' && V.sames l l'
  | _, _ => false
end
theorem V.at {l : List V} {k : Nat} {v : V} (h : l[k]? = some v) : ((V.all l).drop (k * 4)).take 4 = v.ts := by rw [V.all_eq]; exact flat_at V.ts 4 V.ts_len h
/-- all pairs up to the first that is not alike -/
def eqBy {α β : Type} (p : α → β → Bool) : List α → List β → Bool
  | [], [] => true
  | a :: l, b :: r => p a b && eqBy p l r
  | _, _ => false
theorem eqBy_len {α β : Type} {p : α → β → Bool} : ∀ {l : List α} {r : List β}, l.length ≠ r.length → eqBy p l r = false
  | [], [], h => absurd rfl h
  | [], _ :: _, _ => rfl
  | _ :: _, [], _ => rfl
  | a :: l, b :: r, h => by rw [eqBy, eqBy_len (by simpa using h), Bool.and_false]
theorem eqBy_step {α β : Type} {p : α → β → Bool} {l : List α} {r : List β} {k : Nat} {a : α} {b : β} (ha : l[k]? = some a) (hb : r[k]? = some b) : eqBy p (l.drop k) (r.drop k) = (p a b && eqBy p (l.drop (k + 1)) (r.drop (k + 1))) := by
  obtain ⟨h1, rfl⟩ := List.getElem?_eq_some_iff.1 ha
  obtain ⟨h2, rfl⟩ := List.getElem?_eq_some_iff.1 hb
  rw [List.drop_eq_getElem_cons h1, List.drop_eq_getElem_cons h2, eqBy]
set_option maxRecDepth 100000 in
set_option maxHeartbeats 2000000 in
theorem eqVals_af (p : V → V → Bool) (f : FuncId) (l r : List V) (hf : ∀ a ∈ l, ∀ b ∈ r, AF Tryz.prog f [a.t, b.t] (· = .lit (.bool (p a b)))) :
    AF Tryz.prog 73 [V.row l, V.row r, .fn (.func f) []] (· = .lit (.bool (eqBy p l r))) := by
  refine af_enter tok Tryz.func73 Tryz.ntmps73 Tryz.results73 rfl (by kernel_rfl) rfl rfl fun F hX => ?_
  repeat (first | refine gG ?_ | refine zN1 (fun hlen => ?_) | refine zN2 (fun hlen => ?_) | refine zAl (fun _ => ?_))
  refine x_cond rfl (fun h => ?_) (fun h => ?_)
  · repeat (first | refine gG ?_ | refine zN1 (fun hlen => ?_) | refine zN2 (fun hlen => ?_) | refine zAl (fun _ => ?_))
    first | refine zR ?_ | refine zQ ?_
    have : l.length ≠ r.length := by have := h; simp at this; omega
    rw [eqBy_len this]
    rfl
  · have hlr : l.length = r.length := by have := h; simp at this; omega
    repeat (first | refine gG ?_ | refine zN1 (fun hlen => ?_) | refine zN2 (fun hlen => ?_) | refine zAl (fun _ => ?_))
    refine x_loop [6, 7, 8, 9, 17, 18, 19, 20, 21, 22, 23, 24, 25, 26, 27, 28, 29, 30, 31] (fun k : Nat => [(17, .c (.lit (.int .i64 k)))]) (fun _ => []) (fun k => k ≤ l.length ∧ eqBy p l r = eqBy p (l.drop k) (r.drop k)) (fun k => l.length - k) 0 ⟨Nat.zero_le _, rfl⟩ ⟨rfl, trivial⟩ rfl fun k hk => ?_
    repeat (first | refine gG ?_ | refine zN1 (fun hlen => ?_) | refine zN2 (fun hlen => ?_) | refine zAl (fun _ => ?_))
    refine x_cond rfl (fun h => ?_) (fun h => ?_)
    · have hk' : k < l.length := by simpa using h
      obtain ⟨a, ha⟩ : ∃ a, l[k]? = some a := ⟨_, List.getElem?_eq_getElem hk'⟩
      obtain ⟨b, hb⟩ : ∃ b, r[k]? = some b := ⟨_, List.getElem?_eq_getElem (hlr ▸ hk')⟩
      have hp := hf a (List.mem_of_getElem? ha) b (List.mem_of_getElem? hb)
      have hstep : eqBy p (l.drop k) (r.drop k) = (p a b && eqBy p (l.drop (k + 1)) (r.drop (k + 1))) := eqBy_step ha hb
      repeat (first | refine gG ?_ | refine zN1 (fun hlen => ?_) | refine zN2 (fun hlen => ?_) | refine zAl (fun _ => ?_))
      refine lo_idx tok k rfl rfl rfl hk' rfl rfl rfl rfl ?_
      repeat (first | refine gG ?_ | refine zN1 (fun hlen => ?_) | refine zN2 (fun hlen => ?_) | refine zAl (fun _ => ?_))
      refine lo_load_pin tok rfl rfl rfl (V.at ha) (V.ts_len a) ?_
      obtain ⟨ka, na, ta, la⟩ := a
      obtain ⟨kb, nb, tb, lb⟩ := b
      repeat (first | refine gG ?_ | refine zN1 (fun hlen => ?_) | refine zN2 (fun hlen => ?_) | refine zAl (fun _ => ?_))
      refine lo_idx tok k rfl rfl rfl (hlr ▸ hk') rfl rfl rfl rfl ?_
      repeat (first | refine gG ?_ | refine zN1 (fun hlen => ?_) | refine zN2 (fun hlen => ?_) | refine zAl (fun _ => ?_))
      refine lo_load_pin tok rfl rfl rfl (V.at hb) (V.ts_len _) ?_
      repeat (first | refine gG ?_ | refine zN1 (fun hlen => ?_) | refine zN2 (fun hlen => ?_) | refine zAl (fun _ => ?_))
      refine zCallc (hp) ?_
      rintro _ rfl
      repeat (first | refine gG ?_ | refine zN1 (fun hlen => ?_) | refine zN2 (fun hlen => ?_) | refine zAl (fun _ => ?_))
      refine x_cond rfl (fun h => ?_) (fun h => ?_)
      · repeat (first | refine gG ?_ | refine zN1 (fun hlen => ?_) | refine zN2 (fun hlen => ?_) | refine zAl (fun _ => ?_))
        first | refine zR ?_ | refine zQ ?_
        have hq : p (.mk ka na ta la) (.mk kb nb tb lb) = false := by simpa using h
        rw [hk.2, hstep, hq]
        rfl
      · repeat (first | refine gG ?_ | refine zN1 (fun hlen => ?_) | refine zN2 (fun hlen => ?_) | refine zAl (fun _ => ?_))
        have hq : p (.mk ka na ta la) (.mk kb nb tb lb) = true := by simpa using h
        exact ⟨k + 1, ⟨hk', by rw [hk.2, hstep, hq, Bool.true_and]⟩, by omega, x_wkd 0 ⟨rfl, trivial⟩ rfl (by repeat (first | exact ag_refl | refine ag_upd rfl ?_ | refine ag_at rfl rfl ?_))⟩
    · have hk' : k = l.length := by have : ¬ k < l.length := by simpa using h
                                    omega
      repeat (first | refine gG ?_ | refine zN1 (fun hlen => ?_) | refine zN2 (fun hlen => ?_) | refine zAl (fun _ => ?_))
      first | refine zR ?_ | refine zQ ?_
      rw [hk.2, hk', List.drop_length, hlr, List.drop_length]
      rfl
theorem V.sames_eq : ∀ l r : List V, V.sames l r = eqBy V.same l r
  | [], [] => rfl
  | [], _ :: _ => rfl
  | _ :: _, [] => rfl
  | a :: l, b :: r => by rw [V.sames, eqBy, V.sames_eq l r]
mutual
def V.size : V → Nat
  | .mk _ _ _ l => V.sizes l + 1
def V.sizes : List V → Nat
  | [] => 0
  | v :: r => v.size + V.sizes r
end
theorem V.size_mem {v : V} : ∀ {l : List V}, v ∈ l → v.size ≤ V.sizes l
  | [], h => by simp at h
  | x :: l, h => by
    simp only [V.sizes]
    rcases List.mem_cons.1 h with rfl | h
    · omega
    · have := V.size_mem h; omega
theorem V.len_sizes : ∀ l : List V, l.length ≤ V.sizes l
  | [] => by simp [V.sizes]
  | .mk _ _ _ _ :: l => by have := V.len_sizes l; simp only [V.sizes, V.size, List.length_cons]; omega
theorem V.ind {P : V → Prop} (h : ∀ k n t l, (∀ v ∈ l, P v) → P (.mk k n t l)) : ∀ v, P v := by
  have : ∀ (N : Nat) (v : V), v.size ≤ N → P v := by
    intro N
    induction N with
    | zero => intro v hv; cases v; simp [V.size] at hv
    | succ N ih =>
      intro v hv
      cases v with
      | mk k n t l =>
        refine h k n t l fun x hx => ih x ?_
        have := V.size_mem hx
        simp only [V.size] at hv
        omega
  exact fun v => this v.size v (Nat.le_refl _)
theorem eqBy_refl {α : Type} {p : α → α → Bool} : ∀ {l : List α}, (∀ a ∈ l, p a a = true) → eqBy p l l = true
  | [], _ => rfl
  | a :: l, h => by rw [eqBy, h a (by simp), eqBy_refl fun a ha => h a (List.mem_cons_of_mem _ ha)]; rfl
theorem V.same_refl (v : V) : v.same v = true := by
  induction v using V.ind with
  | h k n t l ih => simp [V.same, V.sames_eq, eqBy_refl ih]
set_option maxRecDepth 100000 in
set_option maxHeartbeats 1000000 in
theorem sameValue_af (v : V) : ∀ v' : V, AF Tryz.prog 50 [v.t, v'.t] (· = .lit (.bool (v.same v'))) := by
  induction v using V.ind with
  | h k n t l ih =>
    rintro ⟨k', n', t', l'⟩
    have hcall := eqVals_af V.same 50 l l' (fun a ha b _ => ih a ha b)
    refine af_enter tok Tryz.func50 Tryz.ntmps50 Tryz.results50 rfl (by kernel_rfl) rfl rfl fun F hX => ?_
    cases d1 : decide (k = k')
    · repeat (first | refine gG ?_ | refine zBx (fun _ => ?_))
      first | refine zR ?_ | refine zQ ?_
      simp [V.same, d1, outT]
    cases d2 : decide (n = n')
    · repeat (first | refine gG ?_ | refine zBx (fun _ => ?_))
      first | refine zR ?_ | refine zQ ?_
      simp [V.same, d2, outT]
    cases d3 : decide (t = t')
    · repeat (first | refine gG ?_ | refine zBx (fun _ => ?_))
      first | refine zR ?_ | refine zQ ?_
      simp [V.same, d3, outT]
    repeat (first | refine gG ?_ | refine zBx (fun _ => ?_))
    refine zCall (hcall) ?_
    rintro _ rfl
    repeat (first | refine gG ?_ | refine zBx (fun _ => ?_))
    first | refine zR ?_ | refine zQ ?_
    simp [V.same, d1, d2, d3, V.sames_eq, outT]
end Go.Proofs.YthgackidonocpaaGreat
namespace Go.Proofs.YthgackidonocpaaGreat
open Go.RowKit
theorem V.all_app (l r : List V) : V.all (l ++ r) = V.all l ++ V.all r := by simp [V.all_eq]
theorem V.all_one (v : V) : V.all [v] = v.ts := by simp [V.all]
theorem V.all_snoc {l : List V} {k : Nat} {a : V} (h : l[k]? = some a) : V.all (l.take (k + 1)) = V.all (l.take k) ++ a.ts := by
  obtain ⟨h1, rfl⟩ := List.getElem?_eq_some_iff.1 h
  rw [List.take_succ_eq_append_getElem h1, V.all_app, V.all_one]
end Go.Proofs.YthgackidonocpaaGreat
