/-
  Abstract states: what one operation does, regions, code, calls.
-/
import Derived.Test.YthgackidonocpaaAb1
import Derived.Laws.CopyRow
import Derived.Deep.LoopGhost
namespace Go.Proofs.Ythgackidonocpaa
open Go.RowKit

/-- what is asked once an operation has yielded this -/
def Yl (P : Program) (r : Result Next) (next : Value → World → Prop) : Prop :=
  match r with
  | .ok (.value u) w' => next u w'
  | .ok .skip w' => next undef w'
  | .ok (.enter f args) w' => Calls P f args w' fun e w'' => ∃ v, e = .returned v ∧ next v w''
  | _ => False
theorem Yl.mono {P : Program} {r : Result Next} {next next' : Value → World → Prop} (h : Yl P r next) (hn : ∀ u w, next u w → next' u w) : Yl P r next' := by
  unfold Yl at *
  split <;> simp_all
  exact h.mono fun e w'' ⟨v, he, hv⟩ => ⟨v, he, hn _ _ hv⟩

/-- one operation, at operands that read so -/
structure LO (P : Program) (F : Frm) (o : Oper) (ρ : Operand → AV) (hp : List Blk) (K : AV → List Blk → Prop) : Prop where
  out : ∀ (M : Mm) (e : Operand → Value) (w : World), (∀ x ∈ o.op.operands.toList, RA M (ρ x) (e x)) → HeapOk F M hp w →
    Yl P ((execOp e o).run P w) fun u w' => ∃ M' v hp', K v hp' ∧ Ext F.may M M' ∧ HeapOk F M' hp' w' ∧ RA M' v u

theorem LO.mono {P : Program} {F : Frm} {o : Oper} {ρ : Operand → AV} {hp : List Blk} {K K' : AV → List Blk → Prop} (h : LO P F o ρ hp K) (hk : ∀ v hp', K v hp' → K' v hp') : LO P F o ρ hp K' :=
  ⟨fun M e w h1 h2 => (h.out M e w h1 h2).mono fun _ _ ⟨M', v, hp', h3, h4⟩ => ⟨M', v, hp', hk _ _ h3, h4⟩⟩

theorem LO.congr {P : Program} {F : Frm} {o : Oper} {ρ ρ' : Operand → AV} {hp : List Blk} {K : AV → List Blk → Prop} (h : LO P F o ρ hp K) (hk : ∀ x ∈ o.op.operands.toList, ρ' x = ρ x) : LO P F o ρ' hp K :=
  ⟨fun M e w h1 h2 => h.out M e w (fun x hx => by rw [← hk x hx]; exact h1 x hx) h2⟩
/-- a value, the world as it was -/
theorem LO.same {P : Program} {F : Frm} {o : Oper} {ρ : Operand → AV} {hp : List Blk} {K : AV → List Blk → Prop} {v : AV}
    (h : ∀ (M : Mm) (e : Operand → Value) (w : World), (∀ x ∈ o.op.operands.toList, RA M (ρ x) (e x)) → HeapOk F M hp w → ∃ u, (execOp e o).run P w = .ok (.value u) w ∧ RA M v u) (hK : K v hp) : LO P F o ρ hp K := by
  refine ⟨fun M e w h1 h2 => ?_⟩
  obtain ⟨u, hr, hu⟩ := h M e w h1 h2
  rw [hr]
  exact ⟨M, v, hp, hK, Ext.refl _ _, h2, hu⟩

/-- operations in their order -/
structure AL (P : Program) (F : Frm) (ops : Array Oper) (K : AS → Prop) (l : List Oper) (σ : AS) : Prop where
  out : ∀ (M : Mm) (a : Act) (w : World), Rep F M σ a w → ∀ Q : Exit → Act → World → Prop, (∀ M' σ' a' w', K σ' → Rep F M' σ' a' w' → Q .normal a' w') → wpList P ops Q l a w
structure AC (P : Program) (F : Frm) (c : Code) (Q : Exit → AS → Prop) (σ : AS) : Prop where
  out : ∀ (M : Mm) (a : Act) (w : World), Rep F M σ a w → c.wp P (fun e a' w' => ∃ M' σ', Q e σ' ∧ Rep F M' σ' a' w') a w

section
variable {P : Program} {F : Frm}
theorem Yl.wp {o : Oper} {a : Act} {w : World} {next : Value → World → Prop} (h : Yl P ((execOp a.eval o).run P w) next) {K : Act → World → Prop} (Q : Exit → Act → World → Prop) (hk : ∀ u w', next u w' → K (a.put o.dst u) w') : o.wp P a w K Q := by
  unfold Oper.wp
  unfold Yl at h
  split at h
  · rename_i hr; rw [hr]; exact hk _ _ h
  · rename_i hr; rw [hr]; exact hk _ _ h
  · rename_i hr
    rw [hr]
    exact h.mono fun e w'' ⟨v, he, hv⟩ => by subst he; exact hk _ _ hv
  · exact h.elim
theorem al_nil {ops : Array Oper} {K : AS → Prop} {σ : AS} (h : K σ) : AL P F ops K [] σ := ⟨fun M a w hr _ hQ => hQ M σ a w h hr⟩
theorem al_op {ops : Array Oper} {K : AS → Prop} {σ : AS} {rest : List Oper} {d : Option Tmp} {op : Op} {ty : TypeId} {pos : String} {aft : Array Edge}
    (h : LO P F ⟨d, op, ty, pos, aft, none⟩ σ.ev σ.hp fun v hp' => AL P F ops K rest (σ.st d v hp')) : AL P F ops K (⟨d, op, ty, pos, aft, none⟩ :: rest) σ := by
  refine ⟨fun M a w hr Q hQ => ?_⟩
  refine wpList_plain rfl fun K' hK' => ?_
  refine (h.out M a.eval w (fun x _ => hr.ev x) hr.heap).wp Q fun u w' ⟨M', v, hp', h1, h2, h3, h4⟩ => hK' _ _ (h1.out M' _ _ (hr.st h2.sub h3 _ h4) Q hQ)
theorem yielded_of {M : Mm} {σ : AS} {a : Act} {w : World} (hr : Rep F M σ a w) {ops : Array Oper} {g : Nat} {d : Tmp} {c : Bool} (hd : (ops[g]?).bind (·.dst) = some d) (hv : σ.tmps d = .c (.lit (.bool c))) : yielded ops a.tmps g = some c := by
  have h := hr.tmps d
  rw [hv] at h
  simp only [RA, RT] at h
  unfold yielded
  rw [hd]
  simp only [Option.bind_some]
  rw [Array.getD_eq_getD_getElem?] at h
  cases hc : a.tmps[d]? with
  | none => rw [hc] at h; simp [undef] at h
  | some u => rw [hc] at h; simp at h; simp [h]
theorem al_do {ops : Array Oper} {K : AS → Prop} {σ : AS} {rest : List Oper} {dt : Option Tmp} {op : Op} {ty : TypeId} {pos : String} {aft : Array Edge} {g : Nat} {b : Bool} (d : Tmp)
    (hd : (ops[g]?).bind (·.dst) = some d) (hv : σ.tmps d = .c (.lit (.bool b)))
    (h : LO P F ⟨dt, op, ty, pos, aft, some (g, b)⟩ σ.ev σ.hp fun v hp' => AL P F ops K rest (σ.st dt v hp')) : AL P F ops K (⟨dt, op, ty, pos, aft, some (g, b)⟩ :: rest) σ := by
  refine ⟨fun M a w hr Q hQ => ?_⟩
  refine wpList_step fun K' hK' => ?_
  rw [if_pos (by simp [Region.wanted, yielded_of hr hd hv])]
  refine (h.out M a.eval w (fun x _ => hr.ev x) hr.heap).wp Q fun u w' ⟨M', v, hp', h1, h2, h3, h4⟩ => hK' _ _ (h1.out M' _ _ (hr.st h2.sub h3 _ h4) Q hQ)
theorem al_not {ops : Array Oper} {K : AS → Prop} {σ : AS} {rest : List Oper} {dt : Option Tmp} {op : Op} {ty : TypeId} {pos : String} {aft : Array Edge} {g : Nat} {b : Bool} (d : Tmp)
    (hd : (ops[g]?).bind (·.dst) = some d) (hv : σ.tmps d = .c (.lit (.bool !b)))
    (h : AL P F ops K rest (σ.st dt (.c (.lit undef)) σ.hp)) : AL P F ops K (⟨dt, op, ty, pos, aft, some (g, b)⟩ :: rest) σ := by
  refine ⟨fun M a w hr Q hQ => ?_⟩
  refine wpList_step fun K' hK' => ?_
  rw [if_neg (by cases b <;> simp [Region.wanted, yielded_of hr hd hv])]
  exact hK' _ _ (h.out M _ _ (hr.st (Sub.refl _) hr.heap _ (by simp [RA, RT])) Q hQ)

theorem yielded_un {M : Mm} {σ : AS} {a : Act} {w : World} (hr : Rep F M σ a w) {ops : Array Oper} {g : Nat} {d : Tmp} (hd : (ops[g]?).bind (·.dst) = some d) (hv : σ.tmps d = .c (.lit undef)) : yielded ops a.tmps g = none := by
  have h := hr.tmps d
  rw [hv] at h
  simp only [RA, RT] at h
  unfold yielded
  rw [hd]
  simp only [Option.bind_some]
  rw [Array.getD_eq_getD_getElem?] at h
  cases hc : a.tmps[d]? with
  | none => rfl
  | some u => rw [hc] at h; simp [undef] at h; simp [h]
theorem al_un {ops : Array Oper} {K : AS → Prop} {σ : AS} {rest : List Oper} {dt : Option Tmp} {op : Op} {ty : TypeId} {pos : String} {aft : Array Edge} {g : Nat} {b : Bool} (d : Tmp)
    (hd : (ops[g]?).bind (·.dst) = some d) (hv : σ.tmps d = .c (.lit undef))
    (h : AL P F ops K rest (σ.st dt (.c (.lit undef)) σ.hp)) : AL P F ops K (⟨dt, op, ty, pos, aft, some (g, b)⟩ :: rest) σ := by
  refine ⟨fun M a w hr Q hQ => ?_⟩
  refine wpList_step fun K' hK' => ?_
  rw [if_neg (by simp [Region.wanted, yielded_un hr hd hv])]
  exact hK' _ _ (h.out M _ _ (hr.st (Sub.refl _) hr.heap _ (by simp [RA, RT])) Q hQ)

theorem ac_region {id : Nat} {l : List Oper} {Q : Exit → AS → Prop} {σ : AS} (h : AL P F l.toArray (Q .normal) l σ) : AC P F (.region id l.toArray false) Q σ :=
  ⟨fun M a w hr => wp_region_lit (h.out M a w hr _ fun M' σ' _ _ hq hr' => ⟨M', σ', hq, hr'⟩)⟩
theorem AC.mono {c : Code} {Q Q' : Exit → AS → Prop} {σ : AS} (h : AC P F c Q σ) (hq : ∀ e σ', Q e σ' → Q' e σ') : AC P F c Q' σ :=
  ⟨fun M a w hr => wp_mono (h.out M a w hr) fun _ _ _ ⟨M', σ', h1, h2⟩ => ⟨M', σ', hq _ _ h1, h2⟩⟩
theorem ac_skip {Q : Exit → AS → Prop} {σ : AS} (h : Q .normal σ) : AC P F .skip Q σ := ⟨fun M _ _ hr => wp_skip ⟨M, σ, h, hr⟩⟩
theorem ac_ret {Q : Exit → AS → Prop} {σ : AS} (h : Q .ret σ) : AC P F .ret Q σ := ⟨fun M _ _ hr => wp_ret ⟨M, σ, h, hr⟩⟩
theorem ac_exit {id : Nat} {Q : Exit → AS → Prop} {σ : AS} (h : Q (.exit id) σ) : AC P F (.exit id) Q σ := ⟨fun M _ _ hr => wp_exit ⟨M, σ, h, hr⟩⟩

def thenA (next : AS → Prop) (Q : Exit → AS → Prop) (e : Exit) (σ : AS) : Prop :=
  match e with
  | .normal => next σ
  | e => Q e σ
def inBlk (id : Nat) (Q : Exit → AS → Prop) (e : Exit) (σ : AS) : Prop :=
  match e with
  | .exit id' => cond (Nat.beq id' id) (Q .normal σ) (Q (.exit id') σ)
  | e => Q e σ
theorem ac_seq {x y : Code} {Q : Exit → AS → Prop} {σ : AS} (h : AC P F x (thenA (AC P F y Q) Q) σ) : AC P F (.seq x y) Q σ := by
  refine ⟨fun M a w hr => ?_⟩
  refine wp_seq (wp_mono (h.out M a w hr) ?_)
  rintro e a' w' ⟨M', σ', h1, h2⟩
  cases e <;> first | exact h1.out M' a' w' h2 | exact ⟨M', σ', h1, h2⟩
theorem ac_block {id : Nat} {x : Code} {Q : Exit → AS → Prop} {σ : AS} (h : AC P F x (inBlk id Q) σ) : AC P F (.block id x) Q σ := by
  refine ⟨fun M a w hr => ?_⟩
  refine wp_block (wp_mono (h.out M a w hr) ?_)
  rintro e a' w' ⟨M', σ', h1, h2⟩
  cases e with
  | exit id' =>
    simp only [Exit.inBlock]
    by_cases hi : id' = id
    · subst hi
      rw [if_pos rfl]
      simp only [inBlk, Nat.beq_refl, cond_true] at h1
      exact ⟨M', σ', h1, h2⟩
    · have hb : Nat.beq id' id = false := by
        cases hc : Nat.beq id' id with
        | false => rfl
        | true => exact absurd (Nat.eq_of_beq_eq_true hc) hi
      rw [if_neg hi]
      simp only [inBlk, hb, cond_false] at h1
      exact ⟨M', σ', h1, h2⟩
  | _ => exact ⟨M', σ', h1, h2⟩
theorem ac_cond {c : Operand} {x y : Code} {Q : Exit → AS → Prop} {σ : AS} {t : Bool} (hc : σ.ev c = .c (.lit (.bool t))) (ht : t = true → AC P F x Q σ) (hf : t = false → AC P F y Q σ) : AC P F (.cond c x y) Q σ := by
  refine ⟨fun M a w hr => ?_⟩
  have h := hr.ev c
  rw [hc] at h
  simp only [RA, RT] at h
  exact wp_cond_split h (fun e => (ht e).out M a w hr) (fun e => (hf e).out M a w hr)
theorem ac_true {c : Operand} {x y : Code} {Q : Exit → AS → Prop} {σ : AS} (hc : σ.ev c = .c (.lit (.bool true))) (ht : AC P F x Q σ) : AC P F (.cond c x y) Q σ := ac_cond hc (fun _ => ht) (fun h => by cases h)
theorem ac_false {c : Operand} {x y : Code} {Q : Exit → AS → Prop} {σ : AS} (hc : σ.ev c = .c (.lit (.bool false))) (hf : AC P F y Q σ) : AC P F (.cond c x y) Q σ := ac_cond hc (fun h => by cases h) (fun _ => hf)

/-- what is known under σ gives what is known under τ -/
def Wk (F : Frm) (σ τ : AS) : Prop := ∀ (M : Mm) (a : Act) (w : World), Rep F M σ a w → ∃ M', Rep F M' τ a w
theorem Wk.refl (σ : AS) : Wk F σ σ := fun M _ _ h => ⟨M, h⟩
theorem Wk.trans {σ τ υ : AS} (h : Wk F σ τ) (h' : Wk F τ υ) : Wk F σ υ := fun M a w hr => let ⟨M', hr'⟩ := h M a w hr; h' M' a w hr'
theorem ac_wk {c : Code} {Q : Exit → AS → Prop} {σ τ : AS} (h : Wk F σ τ) (hc : AC P F c Q τ) : AC P F c Q σ := ⟨fun M a w hr => let ⟨M', hr'⟩ := h M a w hr; hc.out M' a w hr'⟩
theorem ac_loop {c : Code} {Q : Exit → AS → Prop} {σ : AS} {A : Type} (st : A → AS) (I : A → Prop) (μ : A → Nat) (x₀ : A) (h₀ : I x₀) (hσ : Wk F σ (st x₀))
    (round : ∀ x, I x → AC P F c (thenA (fun σ' => ∃ y, I y ∧ μ y < μ x ∧ Wk F σ' (st y)) Q) (st x)) : AC P F (.loop c) Q σ := by
  refine ⟨fun M a w hr => ?_⟩
  obtain ⟨M₁, hr₁⟩ := hσ M a w hr
  refine wp_loop_ghost (fun n a w => ∃ x M, I x ∧ μ x = n ∧ Rep F M (st x) a w) (μ x₀) ⟨x₀, M₁, h₀, rfl, hr₁⟩ ?_
  rintro n a w ⟨x, M, hx, rfl, hr⟩
  refine wp_mono ((round x hx).out M a w hr) ?_
  rintro e a' w' ⟨M', σ', h1, h2⟩
  cases e with
  | normal =>
    obtain ⟨y, hy, hlt, hw⟩ := h1
    obtain ⟨M'', hr''⟩ := hw M' a' w' h2
    exact ⟨μ y, hlt, y, M'', hy, rfl, hr''⟩
  | _ => exact ⟨M', σ', h1, h2⟩

/-! ### states at a loop's head -/
def memB (i : Nat) : List Nat → Bool
  | [] => false
  | j :: l => cond (Nat.beq i j) true (memB i l)
def lkp (i : Nat) : List (Nat × AV) → Option AV
  | [] => none
  | (j, v) :: l => cond (Nat.beq i j) (some v) (lkp i l)
/-- the slots of W are forgotten, those of l hold these, the blocks are these -/
def AS.at_ (σ : AS) (W : List Nat) (l : List (Nat × AV)) (hp : List Blk) : AS :=
  ⟨fun i => match lkp i l with | some v => v | none => cond (memB i W) .junk (σ.tmps i), hp, σ.N⟩
def Agree (W : List Nat) (σ τ : AS) : Prop := σ.N = τ.N ∧ ∀ i, memB i W = false → σ.tmps i = τ.tmps i
def Has (σ : AS) : List (Nat × AV) → Prop
  | [] => True
  | (d, v) :: l => σ.tmps d = v ∧ Has σ l
theorem Agree.refl (W : List Nat) (σ : AS) : Agree W σ σ := ⟨rfl, fun _ _ => rfl⟩
theorem agree_st {W : List Nat} {σ τ : AS} {d : Tmp} {v : AV} {hp : List Blk} (hd : memB d W = true) (h : Agree W σ τ) : Agree W (σ.st (some d) v hp) τ := by
  refine ⟨h.1, fun i hi => ?_⟩
  have : Nat.beq i d = false := by
    cases hc : Nat.beq i d with
    | false => rfl
    | true =>
      have := Nat.eq_of_beq_eq_true hc
      subst this
      rw [hd] at hi; cases hi
  simp only [AS.st, this, Bool.false_and, cond_false]
  exact h.2 i hi
theorem agree_none {W : List Nat} {σ τ : AS} {v : AV} {hp : List Blk} (h : Agree W σ τ) : Agree W (σ.st none v hp) τ := h
theorem lkp_mem {i : Nat} {v : AV} : ∀ {l : List (Nat × AV)}, lkp i l = some v → ∃ p ∈ l, p.1 = i ∧ p.2 = v
  | [], h => by simp [lkp] at h
  | (j, u) :: l, h => by
    unfold lkp at h
    cases hc : Nat.beq i j with
    | true =>
      rw [hc] at h
      simp only [cond_true, Option.some.injEq] at h
      exact ⟨(j, u), by simp, (Nat.eq_of_beq_eq_true hc).symm, h⟩
    | false =>
      rw [hc] at h
      obtain ⟨p, h1, h2⟩ := lkp_mem (l := l) h
      exact ⟨p, by simp [h1], h2⟩
theorem agree_at {W W' : List Nat} {σ τ : AS} {l : List (Nat × AV)} {hp : List Blk} (hW : (W'.all fun d => memB d W) = true) (hl : (l.all fun p => memB p.1 W) = true) (h : Agree W σ τ) : Agree W (σ.at_ W' l hp) τ := by
  refine ⟨h.1, fun i hi => ?_⟩
  have h1 : lkp i l = none := by
    cases hc : lkp i l with
    | none => rfl
    | some v =>
      obtain ⟨p, hp, rfl, _⟩ := lkp_mem hc
      have := List.all_eq_true.1 hl p hp
      rw [hi] at this; cases this
  have h2 : memB i W' = false := by
    cases hc : memB i W' with
    | false => rfl
    | true =>
      have hm : ∀ l : List Nat, memB i l = true → i ∈ l := by
        intro l
        induction l with
        | nil => intro h; cases h
        | cons j l ih =>
          intro h
          unfold memB at h
          cases hb : Nat.beq i j with
          | true => have := Nat.eq_of_beq_eq_true hb; subst this; simp
          | false => rw [hb] at h; exact List.mem_cons_of_mem _ (ih h)
      have := List.all_eq_true.1 hW i (hm W' hc)
      rw [hi] at this; cases this
  simp only [AS.at_, h1, h2, cond_false]
  exact h.2 i hi
theorem has_get {σ : AS} {i : Nat} {v : AV} : ∀ {l : List (Nat × AV)}, Has σ l → lkp i l = some v → σ.tmps i = v
  | [], _, h => by simp [lkp] at h
  | (j, u) :: l, hh, h => by
    unfold lkp at h
    cases hc : Nat.beq i j with
    | true =>
      rw [hc] at h
      simp only [cond_true, Option.some.injEq] at h
      rw [Nat.eq_of_beq_eq_true hc, ← h]; exact hh.1
    | false => rw [hc] at h; exact has_get hh.2 h
theorem wk_at {σ τ : AS} {W : List Nat} {l : List (Nat × AV)} {hp : List Blk} (hl : Has σ l) (hp' : σ.hp = hp) (h : Agree W σ τ) : Wk F σ (τ.at_ W l hp) := by
  subst hp'
  intro M a w hr
  refine ⟨M, fun i => ?_, hr.size.trans h.1, hr.defers, hr.heap⟩
  simp only [AS.at_]
  cases hc : lkp i l with
  | some v => rw [← has_get hl hc]; exact hr.tmps i
  | none =>
    cases hw : memB i W with
    | true => simp only [cond_true, RA]
    | false => simp only [cond_false]; rw [← h.2 i hw]; exact hr.tmps i
/-- blocks at the end are let go -/
theorem wk_drop {σ : AS} (k : Nat) : Wk F σ ⟨σ.tmps, σ.hp.take k, σ.N⟩ := by
  intro M a w hr
  have hg : ∀ (i : Nat) (x : Blk), (σ.hp.take k)[i]? = some x → σ.hp[i]? = some x := by
    intro i x hx
    rw [List.getElem?_take] at hx
    split at hx
    · exact hx
    · cases hx
  exact ⟨M, hr.tmps, hr.size, hr.defers, hr.heap.mem, hr.heap.ext, hr.heap.frm, fun i x hx => hr.heap.at_ i x (hg i x hx), fun i j x y b hx hy => hr.heap.sep i j x y b (hg i x hx) (hg j y hy), fun i x b hx => hr.heap.out i x b (hg i x hx)⟩

/-! ### entering a function, and its results -/
def AS.init (N : Nat) (args : List AV) : AS := ⟨fun i => cond (Nat.blt i N) (args.getD i (.c (.lit undef))) (.c (.lit undef)), [], N⟩
end

end Go.Proofs.Ythgackidonocpaa
