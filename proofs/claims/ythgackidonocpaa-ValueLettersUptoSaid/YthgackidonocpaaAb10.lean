/-
  Abstract states: a region that draws its order. One walk in an order of the prover's choice serves every order: operations that only look (class 1), that do not even look at the blocks (class 0), and those that write (class 2: every operation of class 1 that has not come up must be waited for by them).
-/
import Derived.Test.YthgackidonocpaaAb9
import Derived.StillTail
namespace Go.Proofs.Ythgackidonocpaa
open Go.RowKit

section
variable {P : Program} {F : Frm} {ops : Array Oper} {md : Region.Mode} {N : Nat} {cls : Nat → Nat}

def updO (N : Nat) (d : Option Tmp) (v : AV) (τ : Nat → AV) : Nat → AV := match d with | none => τ | some d => upd N d v τ
def det (v : AV) (hp : List Blk) (v' : AV) (hp' : List Blk) : Prop := v' = v ∧ hp' = hp
/-- the guard lets it be carried out, or not -/
def GYes (ops : Array Oper) (τ : Nat → AV) (o : Oper) : Prop :=
  match o.guard with
  | none => True
  | some (g, b) => ∃ d, (ops[g]?).bind (·.dst) = some d ∧ τ d = .c (.lit (.bool b))
def GNo (ops : Array Oper) (τ : Nat → AV) (o : Oper) : Prop :=
  match o.guard with
  | none => False
  | some (g, b) => ∃ d, (ops[g]?).bind (·.dst) = some d ∧ ((∃ c, τ d = .c (.lit (.bool c)) ∧ c = !b) ∨ τ d = .c (.lit undef))
/-- what a writing operation (2), or one that makes a variable (3), does to the blocks -/
def Grows (k : Nat) (hp hp' : List Blk) : Prop := k = 2 ∨ ∃ y, hp' = hp ++ y
/-- what a looking operation yields -/
def YA (P : Program) (F : Frm) (ops : Array Oper) (k : Nat) (o : Oper) (v : AV) (τ : Nat → AV) (hp : List Blk) : Prop :=
  (GYes ops τ o ∧ (k = 0 → ∀ hp', LO P F o (evT τ) hp' (det v hp')) ∧ (k ≠ 0 → ∀ x, LO P F o (evT τ) (hp ++ x) (det v (hp ++ x)))) ∨ (GNo ops τ o ∧ v = .c (.lit undef))
def opA (P : Program) (F : Frm) (ops : Array Oper) (N : Nat) (cls : Nat → Nat) (i : Nat) (K : (Nat → AV) → List Blk → Prop) (τ : Nat → AV) (hp : List Blk) : Prop :=
  match ops[i]? with
  | none => K τ hp
  | some o =>
    if 2 ≤ cls i then (GYes ops τ o ∧ LO P F o (evT τ) hp fun v hp' => Grows (cls i) hp hp' ∧ K (updO N o.dst v τ) hp') ∨ (GNo ops τ o ∧ K (updO N o.dst (.c (.lit undef)) τ) hp)
    else ∃ v, YA P F ops (cls i) o v τ hp ∧ K (updO N o.dst v τ) hp
theorem opA_mono {i : Nat} {K K' : (Nat → AV) → List Blk → Prop} {τ : Nat → AV} {hp : List Blk} (h : ∀ τ hp, K τ hp → K' τ hp) (hh : opA P F ops N cls i K τ hp) : opA P F ops N cls i K' τ hp := by
  unfold opA at *
  split
  · exact h _ _ (by simpa [*] using hh)
  · rename_i o ho
    simp only [ho] at hh
    split
    · rename_i hc
      rw [if_pos hc] at hh
      rcases hh with ⟨h1, h2⟩ | ⟨h1, h2⟩
      · exact .inl ⟨h1, h2.mono fun _ _ h3 => ⟨h3.1, h _ _ h3.2⟩⟩
      · exact .inr ⟨h1, h _ _ h2⟩
    · rename_i hc
      rw [if_neg hc] at hh
      obtain ⟨v, h1, h2⟩ := hh
      exact ⟨v, h1, h _ _ h2⟩
def AnyA (P : Program) (F : Frm) (md : Region.Mode) (ops : Array Oper) (N : Nat) (cls : Nat → Nat) (Kf : (Nat → AV) → List Blk → Prop) : Nat → Array Bool → (Nat → AV) → List Blk → Prop
  | 0, listed, τ, hp => Region.ready md ops listed = [] ∧ Kf τ hp
  | fuel + 1, listed, τ, hp => (Region.ready md ops listed = [] → Kf τ hp) ∧ ∀ i ∈ Region.ready md ops listed, opA P F ops N cls i (AnyA P F md ops N cls Kf fuel (listed.setIfInBounds i true)) τ hp

theorem gyes_wanted {M : Mm} {τ : Nat → AV} {hp : List Blk} {a : Act} {w : World} (hr : Rep F M ⟨τ, hp, N⟩ a w) {o : Oper} (h : GYes ops τ o) : Region.wanted o (yielded ops a.tmps) = true := by
  unfold GYes at h
  unfold Region.wanted
  split
  · rfl
  · rename_i g b hg
    rw [hg] at h
    obtain ⟨d, h1, h2⟩ := h
    rw [yielded_of hr h1 h2]
    simp
theorem gno_wanted {M : Mm} {τ : Nat → AV} {hp : List Blk} {a : Act} {w : World} (hr : Rep F M ⟨τ, hp, N⟩ a w) {o : Oper} (h : GNo ops τ o) : Region.wanted o (yielded ops a.tmps) = false := by
  unfold GNo at h
  unfold Region.wanted
  split
  · rename_i hg; rw [hg] at h; exact h.elim
  · rename_i g b hg
    rw [hg] at h
    obtain ⟨d, h1, ⟨c, h2, h3⟩ | h2⟩ := h
    · rw [yielded_of hr h1 h2, h3]
      cases b <;> simp
    · rw [yielded_un hr h1 h2]
      rfl
theorem rep_upd {M M' : Mm} {τ : Nat → AV} {hp hp' : List Blk} {a : Act} {w w' : World} (hr : Rep F M ⟨τ, hp, N⟩ a w) (hs : Sub M M') (hh : HeapOk F M' hp' w') (d : Option Tmp) {v : AV} {u : Value} (hv : RA M' v u) : Rep F M' ⟨updO N d v τ, hp', N⟩ (a.put d u) w' := by
  have := hr.st hs hh d hv
  cases d <;> exact this
theorem wpOp_of_A {Q : Exit → Act → World → Prop} {i : Nat} {K : (Nat → AV) → List Blk → Prop} {K' : Act → World → Prop} {τ : Nat → AV} {hp : List Blk} {M : Mm} {a : Act} {w : World} (hr : Rep F M ⟨τ, hp, N⟩ a w)
    (hk : ∀ M' τ' hp' a' w', K τ' hp' → Rep F M' ⟨τ', hp', N⟩ a' w' → K' a' w') (h : opA P F ops N cls i K τ hp) : wpOp P ops Q i K' a w := by
  unfold opA at h
  unfold wpOp
  split
  · rename_i ho; simp only [ho] at h; exact hk _ _ _ _ _ h hr
  · rename_i o ho
    simp only [ho] at h
    have key : ∀ K2 : AV → List Blk → Prop, GYes ops τ o → LO P F o (evT τ) hp K2 → (∀ v hp', K2 v hp' → K (updO N o.dst v τ) hp') → (if Region.wanted o (yielded ops a.tmps) = true then o.wp P a w K' Q ∨ (o.asks P a w ∧ LetsOut Q) else K' (a.put o.dst undef) w) := by
      intro K2 hg hl h2
      rw [if_pos (gyes_wanted hr hg)]
      refine .inl ((hl.out M a.eval w (fun x _ => by have := hr.ev x; rwa [evT_eq] at this) hr.heap).wp Q fun u w' ⟨M', v, hp', g1, g2, g3, g4⟩ => hk _ _ _ _ _ (h2 v hp' g1) (rep_upd hr g2.sub g3 _ g4))
    have keyn : GNo ops τ o → K (updO N o.dst (.c (.lit undef)) τ) hp → (if Region.wanted o (yielded ops a.tmps) = true then o.wp P a w K' Q ∨ (o.asks P a w ∧ LetsOut Q) else K' (a.put o.dst undef) w) := by
      intro hg h2
      rw [if_neg (by rw [gno_wanted hr hg]; simp)]
      exact hk _ _ _ _ _ h2 (rep_upd hr (Sub.refl _) hr.heap _ (by simp only [RA, RT]))
    by_cases hc : 2 ≤ cls i
    · rw [if_pos hc] at h
      rcases h with ⟨h1, h2⟩ | ⟨h1, h2⟩
      · exact key _ h1 h2 fun _ _ h => h.2
      · exact keyn h1 h2
    · rw [if_neg hc] at h
      obtain ⟨v, h1, h2⟩ := h
      rcases h1 with ⟨hg, h3, h4⟩ | ⟨hg, rfl⟩
      · have hl : LO P F o (evT τ) hp (det v hp) := by
          by_cases h0 : cls i = 0
          · exact h3 h0 hp
          · have := h4 h0 []; rwa [List.append_nil] at this
        exact key _ hg hl fun v' hp' ⟨e1, e2⟩ => by rw [e1, e2]; exact h2
      · exact keyn hg h2
theorem wpAny_of_A {Kf : (Nat → AV) → List Blk → Prop} {Q : Exit → Act → World → Prop} (hQ : ∀ M τ hp a w, Kf τ hp → Rep F M ⟨τ, hp, N⟩ a w → Q .normal a w) : ∀ (fuel : Nat) (listed : Array Bool) (τ : Nat → AV) (hp : List Blk) (M : Mm) (a : Act) (w : World), Rep F M ⟨τ, hp, N⟩ a w →
    AnyA P F md ops N cls Kf fuel listed τ hp → wpAny P md ops Q fuel listed a w
  | 0, _, _, _, _, _, _, hr, h => ⟨h.1, hQ _ _ _ _ _ h.2 hr⟩
  | fuel + 1, _, _, _, _, _, _, hr, h => ⟨fun h0 => hQ _ _ _ _ _ (h.1 h0) hr, fun i hi => wpOp_of_A hr (fun M' τ' hp' a' w' h' hr' => wpAny_of_A hQ fuel _ τ' hp' M' a' w' hr' h') (h.2 i hi)⟩

/-! ### commuting -/
theorem updO_comm {d d' : Option Tmp} {v v' : AV} {τ : Nat → AV} (h : ∀ x, d = some x → d' ≠ some x) : updO N d v (updO N d' v' τ) = updO N d' v' (updO N d v τ) := by
  cases d with
  | none => rfl
  | some x =>
    cases d' with
    | none => rfl
    | some y =>
      funext i
      simp only [updO, upd]
      cases hx : Nat.beq i x with
      | false => simp
      | true =>
        cases hy : Nat.beq i y with
        | false => simp
        | true =>
          have := Nat.eq_of_beq_eq_true hx
          have := Nat.eq_of_beq_eq_true hy
          subst_vars
          exact absurd rfl (h _ rfl)
theorem updO_far {d : Option Tmp} {v : AV} {τ : Nat → AV} {i : Nat} (h : d ≠ some i) : updO N d v τ i = τ i := by
  cases d with
  | none => rfl
  | some x =>
    simp only [updO, upd]
    have : Nat.beq i x = false := by
      cases hc : Nat.beq i x with
      | false => rfl
      | true => exact absurd (congrArg some (Nat.eq_of_beq_eq_true hc).symm) h
    rw [this]; rfl
theorem mem_looks {o : Oper} {t : Tmp} (h : Operand.tmp t ∈ o.op.operands.toList) : t ∈ o.looksAt ops := by
  unfold Oper.looksAt
  refine List.mem_append_left _ (List.mem_filterMap.2 ⟨_, h, rfl⟩)
theorem evT_far {d : Option Tmp} {v : AV} {τ : Nat → AV} {o : Oper} (h : ∀ x, d = some x → x ∉ o.looksAt ops) : ∀ x ∈ o.op.operands.toList, evT (updO N d v τ) x = evT τ x := by
  intro x hx
  cases x with
  | tmp t => exact updO_far fun e => h t e (mem_looks hx)
  | _ => rfl
theorem look_guard {o : Oper} {g : Nat} {b : Bool} (hg : o.guard = some (g, b)) {x : Tmp} (hx : (ops[g]?).bind (·.dst) = some x) : x ∈ o.looksAt ops := by
  unfold Oper.looksAt
  refine List.mem_append_right _ ?_
  rw [hg]
  simp [hx]
theorem gyes_far {d : Option Tmp} {v : AV} {τ : Nat → AV} {o : Oper} (h : ∀ x, d = some x → x ∉ o.looksAt ops) : GYes ops (updO N d v τ) o ↔ GYes ops τ o := by
  unfold GYes
  split
  · exact Iff.rfl
  · rename_i g b hg
    constructor
    · rintro ⟨x, h1, h2⟩
      exact ⟨x, h1, by rwa [updO_far fun e => h x e (look_guard hg h1)] at h2⟩
    · rintro ⟨x, h1, h2⟩
      exact ⟨x, h1, by rwa [updO_far fun e => h x e (look_guard hg h1)]⟩
theorem gno_far {d : Option Tmp} {v : AV} {τ : Nat → AV} {o : Oper} (h : ∀ x, d = some x → x ∉ o.looksAt ops) : GNo ops (updO N d v τ) o ↔ GNo ops τ o := by
  unfold GNo
  split
  · exact Iff.rfl
  · rename_i g b hg
    constructor
    · rintro ⟨x, h1, h2⟩
      exact ⟨x, h1, by rwa [updO_far fun e => h x e (look_guard hg h1)] at h2⟩
    · rintro ⟨x, h1, h2⟩
      exact ⟨x, h1, by rwa [updO_far fun e => h x e (look_guard hg h1)]⟩
theorem YA.far {k : Nat} {o : Oper} {v u : AV} {d : Option Tmp} {τ : Nat → AV} {hp hp' : List Blk} (hy : YA P F ops k o v τ hp) (h : ∀ x, d = some x → x ∉ o.looksAt ops) (hh : k = 0 ∨ ∃ y, hp' = hp ++ y) : YA P F ops k o v (updO N d u τ) hp' := by
  rcases hy with ⟨h1, h2, h3⟩ | ⟨h1, h2⟩
  · refine .inl ⟨(gyes_far h).2 h1, fun h0 hq => (h2 h0 hq).congr (evT_far h), fun h0 x => ?_⟩
    rcases hh with hh | ⟨y, rfl⟩
    · exact absurd hh h0
    · rw [List.append_assoc]; exact (h3 h0 (y ++ x)).congr (evT_far h)
  · exact .inr ⟨(gno_far h).2 h1, h2⟩
theorem YA.back {k : Nat} {o : Oper} {v u : AV} {d : Option Tmp} {τ : Nat → AV} {hp : List Blk} (hy : YA P F ops k o v (updO N d u τ) hp) (h : ∀ x, d = some x → x ∉ o.looksAt ops) : YA P F ops k o v τ hp := by
  rcases hy with ⟨h1, h2, h3⟩ | ⟨h1, h2⟩
  · exact .inl ⟨(gyes_far h).1 h1, fun h0 hq => (h2 h0 hq).congr (fun x hx => (evT_far h x hx).symm), fun h0 x => (h3 h0 x).congr (fun x hx => (evT_far h x hx).symm)⟩
  · exact .inr ⟨(gno_far h).1 h1, h2⟩
/-- oj, apart from the looking oi, before it -/
theorem opA_put {i j : Nat} {oi oj : Oper} {v : AV} (hj : ops[j]? = some oj) (hap : oi.apart ops oj = true) (hcl : cls j = 2 → cls i = 0) {K : (Nat → AV) → List Blk → Prop} {τ : Nat → AV} {hp : List Blk}
    (hy : YA P F ops (cls i) oi v τ hp) (h : opA P F ops N cls j K (updO N oi.dst v τ) hp) :
    opA P F ops N cls j (fun τ' hp' => YA P F ops (cls i) oi v τ' hp' ∧ K (updO N oi.dst v τ') hp') τ hp := by
  obtain ⟨h1, h2, h3⟩ := Oper.apart_spec hap
  have hcomm : ∀ u, updO N oj.dst u (updO N oi.dst v τ) = updO N oi.dst v (updO N oj.dst u τ) := fun u => updO_comm (fun x hx e => h2 x e hx)
  unfold opA at *
  simp only [hj] at *
  by_cases hc : 2 ≤ cls j
  · rw [if_pos hc] at h ⊢
    rcases h with ⟨hg, hl⟩ | ⟨hg, hk⟩
    · refine .inl ⟨(gyes_far h1).1 hg, (hl.mono fun u hp' hk => ⟨hk.1, hy.far h3 ?_, ?_⟩).congr fun x hx => (evT_far h1 x hx).symm⟩
      · exact hk.1.imp hcl id
      · rw [← hcomm]; exact hk.2
    · refine .inr ⟨(gno_far h1).1 hg, hy.far h3 (.inr ⟨[], by simp⟩), ?_⟩
      rw [← hcomm]; exact hk
  · rw [if_neg hc] at h ⊢
    obtain ⟨u, hu, hk⟩ := h
    refine ⟨u, hu.back h1, hy.far h3 (.inr ⟨[], by simp⟩), ?_⟩
    rw [← hcomm]; exact hk

/-- j waits for i, directly or not -/
def reachB (md : Region.Mode) (ops : Array Oper) : Nat → Nat → Nat → Bool
  | 0, _, _ => false
  | f + 1, j, i => match ops[j]? with
    | some oj => oj.after.any fun e => Region.binds md e && (e.on == i || reachB md ops f e.on i)
    | none => false
def ClosedL (md : Region.Mode) (ops : Array Oper) (listed : Array Bool) : Prop :=
  ∀ j oj, ops[j]? = some oj → listed.getD j false = true → ∀ e ∈ oj.after, Region.binds md e = true → listed.getD e.on false = true
theorem reach_un {listed : Array Bool} (hc : ClosedL md ops listed) {i : Nat} (hi : listed.getD i false = false) : ∀ (f j : Nat), reachB md ops f j i = true → ∀ oj, ops[j]? = some oj → ∃ e ∈ oj.after, Region.binds md e = true ∧ listed.getD e.on false = false
  | 0, _, h, _, _ => by cases h
  | f + 1, j, h, oj, hj => by
    unfold reachB at h
    rw [hj] at h
    obtain ⟨e, he, hb⟩ := Array.any_eq_true'.1 h
    simp only [Bool.and_eq_true, Bool.or_eq_true, beq_iff_eq] at hb
    refine ⟨e, he, hb.1, ?_⟩
    rcases hb.2 with h2 | h2
    · rw [h2]; exact hi
    · cases hl : listed.getD e.on false with
      | false => rfl
      | true =>
        cases ho : ops[e.on]? with
        | none =>
          cases f with
          | zero => cases h2
          | succ f => unfold reachB at h2; rw [ho] at h2; cases h2
        | some oe =>
          obtain ⟨e', he', hb', hun⟩ := reach_un hc hi f e.on h2 oe ho
          rw [hc e.on oe ho hl e' he' hb'] at hun
          cases hun
theorem reach_not_ready {listed : Array Bool} (hc : ClosedL md ops listed) {i j f : Nat} (hi : listed.getD i false = false) (h : reachB md ops f j i = true) : j ∉ Region.ready md ops listed := by
  intro hr
  obtain ⟨_, oj, hoj, hall⟩ := mem_ready.1 hr
  obtain ⟨e, he, hb, hun⟩ := reach_un hc hi f j h oj hoj
  rw [hall e he hb] at hun
  cases hun
theorem ClosedL.set {listed : Array Bool} (hc : ClosedL md ops listed) {i : Nat} (hi : i ∈ Region.ready md ops listed) : ClosedL md ops (listed.setIfInBounds i true) := by
  obtain ⟨_, oi, hoi, hall⟩ := mem_ready.1 hi
  intro j oj hj hl e he hb
  by_cases hij : i = j
  · subst hij
    have : oj = oi := Option.some.inj (hj.symm.trans hoi)
    subst this
    exact getD_set_true (hall e he hb)
  · rw [getD_set_ne false hij] at hl
    exact getD_set_true (hc j oj hj hl e he hb)

/-- what must hold of all others, for a looking operation to be taken first -/
def freeA (md : Region.Mode) (ops : Array Oper) (cls : Nat → Nat) (listed : Array Bool) (i : Nat) : Bool :=
  match ops[i]? with
  | none => false
  | some oi => (List.range ops.size).all fun j => j == i || listed.getD j true || reachB md ops ops.size j i ||
      (match ops[j]? with | some oj => oi.apart ops oj && (cls j != 2 || cls i == 0) | none => true)
theorem getD_false_of {listed : Array Bool} {i : Nat} (h : listed.getD i true = false) : listed.getD i false = false := by
  rcases Nat.lt_or_ge i listed.size with h' | h'
  · simp [h'] at h ⊢; exact h
  · simp [Array.getElem?_eq_none h'] at h
theorem anyA_first {Kf : (Nat → AV) → List Blk → Prop} {i : Nat} {oi : Oper} {v : AV} (hi : ops[i]? = some oi) :
    ∀ (fuel : Nat) (listed : Array Bool) (τ : Nat → AV) (hp : List Blk), ClosedL md ops listed →
      (∀ j oj, ops[j]? = some oj → j ≠ i → listed.getD j true = false → reachB md ops ops.size j i = false → oi.apart ops oj = true ∧ (cls j = 2 → cls i = 0)) →
      i ∈ Region.ready md ops listed → YA P F ops (cls i) oi v τ hp → ¬ 2 ≤ cls i →
      AnyA P F md ops N cls Kf fuel (listed.setIfInBounds i true) (updO N oi.dst v τ) hp → AnyA P F md ops N cls Kf (fuel + 1) listed τ hp := by
  have self : ∀ {K : (Nat → AV) → List Blk → Prop} {τ : Nat → AV} {hp : List Blk}, YA P F ops (cls i) oi v τ hp → ¬ 2 ≤ cls i → K (updO N oi.dst v τ) hp → opA P F ops N cls i K τ hp := by
    intro K τ hp hy h2 hk
    unfold opA
    simp only [hi]
    rw [if_neg h2]
    exact ⟨v, hy, hk⟩
  intro fuel
  induction fuel with
  | zero =>
    intro listed τ hp _ _ hr hy h2 H
    refine ⟨fun h => (by rw [h] at hr; cases hr), fun j hj => ?_⟩
    by_cases hji : j = i
    · subst hji; exact self hy h2 H
    · have := ready_mono hj hji
      rw [H.1] at this
      cases this
  | succ fuel ih =>
    intro listed τ hp hcl hfree hr hy h2 H
    refine ⟨fun h => (by rw [h] at hr; cases hr), fun j hj => ?_⟩
    by_cases hji : j = i
    · subst hji; exact self hy h2 H
    · have h1 := H.2 j (ready_mono hj hji)
      obtain ⟨hjun, oj, hoj, hall⟩ := mem_ready.1 hj
      have hiun := getD_false_of (mem_ready.1 hr).1
      have hnr : reachB md ops ops.size j i = false := by
        cases hc : reachB md ops ops.size j i with
        | false => rfl
        | true => exact absurd hj (reach_not_ready hcl hiun hc)
      obtain ⟨hap, hcc⟩ := hfree j oj hoj hji hjun hnr
      have h3 := opA_put hoj hap hcc hy h1
      have hfree' : ∀ k ok, ops[k]? = some ok → k ≠ i → (listed.setIfInBounds j true).getD k true = false → reachB md ops ops.size k i = false → oi.apart ops ok = true ∧ (cls k = 2 → cls i = 0) := fun k ok hk hki hun hno => by
        refine hfree k ok hk hki ?_ hno
        by_cases hjk : j = k
        · subst hjk; exact hjun
        · rw [getD_set_ne true hjk] at hun; exact hun
      refine opA_mono (fun τ' hp' h4 => ih (listed.setIfInBounds j true) τ' hp' (hcl.set hj) hfree' (ready_mono hr (Ne.symm hji)) h4.1 h2 ?_) h3
      rw [Array.setIfInBounds_comm _ _ hji]
      exact h4.2

/-- the order of the walk, checked -/
def ordB (md : Region.Mode) (ops : Array Oper) (cls : Nat → Nat) : List Nat → Array Bool → Bool
  | [], listed => (Region.ready md ops listed).isEmpty
  | i :: r, listed => (if 2 ≤ cls i then decide (Region.ready md ops listed = [i]) else (Region.ready md ops listed).contains i && freeA md ops cls listed i) && ordB md ops cls r (listed.setIfInBounds i true)
def WO (P : Program) (F : Frm) (ops : Array Oper) (N : Nat) (cls : Nat → Nat) (Kf : (Nat → AV) → List Blk → Prop) : List Nat → (Nat → AV) → List Blk → Prop
  | [], τ, hp => Kf τ hp
  | i :: r, τ, hp => opA P F ops N cls i (WO P F ops N cls Kf r) τ hp
theorem anyA_ord {Kf : (Nat → AV) → List Blk → Prop} : ∀ (r : List Nat) (listed : Array Bool) (τ : Nat → AV) (hp : List Blk), ClosedL md ops listed → ordB md ops cls r listed = true → WO P F ops N cls Kf r τ hp → AnyA P F md ops N cls Kf r.length listed τ hp
  | [], listed, τ, hp, _, hB, h => ⟨by simpa [ordB] using hB, h⟩
  | i :: r, listed, τ, hp, hc, hB, h => by
    simp only [ordB, Bool.and_eq_true] at hB
    obtain ⟨hB1, hB2⟩ := hB
    by_cases h2 : 2 ≤ cls i
    · rw [if_pos h2] at hB1
      have hr := of_decide_eq_true hB1
      refine ⟨fun h0 => (by rw [hr] at h0; cases h0), fun j hj => ?_⟩
      have : j = i := by rw [hr] at hj; simpa using hj
      subst this
      exact opA_mono (fun τ' hp' h' => anyA_ord r _ τ' hp' (hc.set hj) hB2 h') h
    · rw [if_neg h2] at hB1
      simp only [Bool.and_eq_true] at hB1
      obtain ⟨hr, hf⟩ := hB1
      have hr' : i ∈ Region.ready md ops listed := by simpa using hr
      obtain ⟨_, oi, hoi, _⟩ := mem_ready.1 hr'
      have h' := h
      simp only [WO] at h'
      unfold opA at h'
      simp only [hoi] at h'
      rw [if_neg h2] at h'
      obtain ⟨v, hy, hk⟩ := h'
      refine anyA_first hoi r.length listed τ hp hc ?_ hr' hy h2 (anyA_ord r _ _ _ (hc.set hr') hB2 hk)
      intro j oj hj hji hun hno
      unfold freeA at hf
      rw [hoi] at hf
      have := List.all_eq_true.1 hf j (List.mem_range.2 (Array.getElem?_eq_some_iff.1 hj).1)
      rw [hj] at this
      simp only [hun, hno, Bool.or_false, Bool.or_eq_true, beq_iff_eq, hji, false_or, Bool.and_eq_true, bne_iff_ne] at this
      exact ⟨this.1, fun e => by rcases this.2 with h | h; exact absurd e h; exact h⟩
end

section
variable {P : Program} {F : Frm} {τ : Nat → AV} {hp : List Blk} {N : Nat} {Q : Exit → AS → Prop} {id : Nat} {l : List Oper}
def clsOf (c : List Nat) (i : Nat) : Nat := c.getD i 1
/-- a region that draws its order, walked in the order r; c: the classes -/
theorem ac_draw (c r : List Nat) (hm : P.follows .mixedOrders = true) (hB : (ordB .any l.toArray (clsOf c) r (Array.replicate l.toArray.size false) && Nat.beq r.length l.length) = true)
    (h : WO P F l.toArray N (clsOf c) (fun τ' hp' => Q .normal ⟨τ', hp', N⟩) r τ hp) : AC P F (.region id l.toArray true) Q ⟨τ, hp, N⟩ := by
  refine ⟨fun M a w hr => ?_⟩
  simp only [Bool.and_eq_true] at hB
  have hlen := Nat.eq_of_beq_eq_true hB.2
  have hrd : Rep F M ⟨τ, hp, N⟩ a { w with drawn := w.drawn + 1 } := ⟨hr.tmps, hr.size, hr.defers, hr.heap.drew⟩
  have hcl : ClosedL .any l.toArray (Array.replicate l.toArray.size false) := fun j oj _ hl => by rw [getD_replicate_false] at hl; cases hl
  refine wp_region_any hm ?_
  have H := wpAny_of_A (Q := fun e a' w' => ∃ M' σ', Q e σ' ∧ Rep F M' σ' a' w') (fun M τ hp a w hk hr => ⟨M, _, hk, hr⟩) _ _ _ _ _ _ _ hrd (anyA_ord r _ τ hp hcl hB.1 h)
  rwa [hlen, show l.length = l.toArray.size by simp] at H
end

/-! ### the walk's steps -/
section
variable {P : Program} {F : Frm} {ops : Array Oper} {N : Nat} {cls : Nat → Nat} {Kf : (Nat → AV) → List Blk → Prop} {τ : Nat → AV} {hp : List Blk} {r : List Nat} {i : Nat} {d : Option Tmp} {op : Op} {ty : TypeId} {pos : String} {aft : Array Edge} {g : Nat} {b c : Bool} {dg t : Tmp}
theorem w_nil (h : Kf τ hp) : WO P F ops N cls Kf [] τ hp := h
/-- looks, and leaves the blocks -/
theorem w_q {v : AV} (ho : ops[i]? = some ⟨d, op, ty, pos, aft, none⟩) (hc : Nat.beq (cls i) 1 = true) (hl : ∀ x, LO P F ⟨d, op, ty, pos, aft, none⟩ (evT τ) (hp ++ x) (det v (hp ++ x))) (h : WO P F ops N cls Kf r (updO N d v τ) hp) : WO P F ops N cls Kf (i :: r) τ hp := by
  have hc := Nat.eq_of_beq_eq_true hc
  simp only [WO]
  unfold opA
  simp only [ho]
  rw [if_neg (by omega)]
  exact ⟨v, .inl ⟨trivial, fun h0 => by omega, fun _ => hl⟩, h⟩
/-- does not look at the blocks -/
theorem w_p {v : AV} (ho : ops[i]? = some ⟨d, op, ty, pos, aft, none⟩) (hc : Nat.beq (cls i) 0 = true) (hl : ∀ hp', LO P F ⟨d, op, ty, pos, aft, none⟩ (evT τ) hp' (det v hp')) (h : WO P F ops N cls Kf r (updO N d v τ) hp) : WO P F ops N cls Kf (i :: r) τ hp := by
  have hc := Nat.eq_of_beq_eq_true hc
  simp only [WO]
  unfold opA
  simp only [ho]
  rw [if_neg (by omega)]
  exact ⟨v, .inl ⟨trivial, fun _ => hl, fun h0 => absurd hc h0⟩, h⟩
/-- writes -/
theorem w_l (ho : ops[i]? = some ⟨d, op, ty, pos, aft, none⟩) (hc : Nat.beq (cls i) 2 = true) (hl : LO P F ⟨d, op, ty, pos, aft, none⟩ (evT τ) hp fun v hp' => WO P F ops N cls Kf r (updO N d v τ) hp') : WO P F ops N cls Kf (i :: r) τ hp := by
  have hc := Nat.eq_of_beq_eq_true hc
  simp only [WO]
  unfold opA
  simp only [ho]
  rw [if_pos (by omega)]
  exact .inl ⟨trivial, hl.mono fun _ _ h => ⟨.inl hc, h⟩⟩
/-- makes a variable -/
theorem w_a (ho : ops[i]? = some ⟨d, op, ty, pos, aft, none⟩) (hc : Nat.beq (cls i) 3 = true) (hl : LO P F ⟨d, op, ty, pos, aft, none⟩ (evT τ) hp fun v hp' => (∃ y, hp' = hp ++ y) ∧ WO P F ops N cls Kf r (updO N d v τ) hp') : WO P F ops N cls Kf (i :: r) τ hp := by
  have hc := Nat.eq_of_beq_eq_true hc
  simp only [WO]
  unfold opA
  simp only [ho]
  rw [if_pos (by omega)]
  exact .inl ⟨trivial, hl.mono fun _ _ h => ⟨.inr h.1, h.2⟩⟩
theorem det_refl {v : AV} {hp : List Blk} : det v hp v hp := ⟨rfl, rfl⟩
theorem w_qg {v : AV} (ho : ops[i]? = some ⟨d, op, ty, pos, aft, some (g, b)⟩) (hc : Nat.beq (cls i) 1 = true) (hd : (ops[g]?).bind (·.dst) = some dg) (hv : τ dg = .c (.lit (.bool c))) (hcb : c = b) (hl : ∀ x, LO P F ⟨d, op, ty, pos, aft, some (g, b)⟩ (evT τ) (hp ++ x) (det v (hp ++ x))) (h : WO P F ops N cls Kf r (updO N d v τ) hp) : WO P F ops N cls Kf (i :: r) τ hp := by
  have hc := Nat.eq_of_beq_eq_true hc
  subst hcb
  simp only [WO]
  unfold opA
  simp only [ho]
  rw [if_neg (by omega)]
  exact ⟨v, .inl ⟨⟨dg, hd, hv⟩, fun h0 => by omega, fun _ => hl⟩, h⟩
theorem w_no (ho : ops[i]? = some ⟨d, op, ty, pos, aft, some (g, b)⟩) (hc : Nat.ble (cls i) 1 = true) (hd : (ops[g]?).bind (·.dst) = some dg) (hv : τ dg = .c (.lit (.bool c))) (hcb : c = !b) (h : WO P F ops N cls Kf r (updO N d (.c (.lit undef)) τ) hp) : WO P F ops N cls Kf (i :: r) τ hp := by
  have hc := Nat.le_of_ble_eq_true hc
  simp only [WO]
  unfold opA
  simp only [ho]
  rw [if_neg (by omega)]
  exact ⟨_, .inr ⟨⟨dg, hd, .inl ⟨c, hv, hcb⟩⟩, rfl⟩, h⟩
theorem w_un (ho : ops[i]? = some ⟨d, op, ty, pos, aft, some (g, b)⟩) (hc : Nat.ble (cls i) 1 = true) (hd : (ops[g]?).bind (·.dst) = some dg) (hv : τ dg = .c (.lit undef)) (h : WO P F ops N cls Kf r (updO N d (.c (.lit undef)) τ) hp) : WO P F ops N cls Kf (i :: r) τ hp := by
  have hc := Nat.le_of_ble_eq_true hc
  simp only [WO]
  unfold opA
  simp only [ho]
  rw [if_neg (by omega)]
  exact ⟨_, .inr ⟨⟨dg, hd, .inr hv⟩, rfl⟩, h⟩
end

end Go.Proofs.Ythgackidonocpaa
