/-
  Texts of this proof, part 4: Ab10 Ab11 Ab12 Ab13.
-/
import Derived.Test.YtbfomgchjlkopaaDoorQPageLines3
import Derived.Laws.IdiomRangeMap
import Derived.MapKept
import Derived.StillTail
namespace Go.Proofs.YtbfomgchjlkopaaDoor
open Go.RowKit
section
variable {P : Program} {F : Frm} {ops : Array Oper} {md : Region.Mode} {N : Nat} {cls : Nat → Nat}
def updO (N : Nat) (d : Option Tmp) (v : AV) (τ : Nat → AV) : Nat → AV := match d with | none => τ | some d => upd N d v τ
def det (v : AV) (hp : List Blk) (v' : AV) (hp' : List Blk) : Prop := v' = v ∧ hp' = hp
/-- the guard lets it be carried out, or not -/
def GYes (ops : Array Oper) (τ : Nat → AV) (o : Oper) : Prop :=
  match o.guard with
  | none => True
  | some (g, b) => ∃ d, (ops[g]?).bind (·.dst) = some d ∧ τ d = .c (.lit (.bool b))
def GNo (ops : Array Oper) (τ : Nat → AV) (o : Oper) : Prop :=
  match o.guard with
  | none => False
  | some (g, b) => ∃ d, (ops[g]?).bind (·.dst) = some d ∧ ((∃ c, τ d = .c (.lit (.bool c)) ∧ c = !b) ∨ τ d = .c (.lit undef))
/-- what a writing operation (2), or one that makes a variable (3), does to the blocks -/
def Grows (k : Nat) (hp hp' : List Blk) : Prop := k = 2 ∨ ∃ y, hp' = hp ++ y
/-- what a looking operation yields -/
def YA (P : Program) (F : Frm) (ops : Array Oper) (k : Nat) (o : Oper) (v : AV) (τ : Nat → AV) (hp : List Blk) : Prop :=
  (GYes ops τ o ∧ (k = 0 → ∀ hp', LO P F o (evT τ) hp' (det v hp')) ∧ (k ≠ 0 → ∀ x, LO P F o (evT τ) (hp ++ x) (det v (hp ++ x)))) ∨ (GNo ops τ o ∧ v = .c (.lit undef))
def opA (P : Program) (F : Frm) (ops : Array Oper) (N : Nat) (cls : Nat → Nat) (i : Nat) (K : (Nat → AV) → List Blk → Prop) (τ : Nat → AV) (hp : List Blk) : Prop :=
  match ops[i]? with
  | none => K τ hp
  | some o =>
    if 2 ≤ cls i then (GYes ops τ o ∧ LO P F o (evT τ) hp fun v hp' => Grows (cls i) hp hp' ∧ K (updO N o.dst v τ) hp') ∨ (GNo ops τ o ∧ K (updO N o.dst (.c (.lit undef)) τ) hp)
    else ∃ v, YA P F ops (cls i) o v τ hp ∧ K (updO N o.dst v τ) hp
theorem opA_mono {i : Nat} {K K' : (Nat → AV) → List Blk → Prop} {τ : Nat → AV} {hp : List Blk} (h : ∀ τ hp, K τ hp → K' τ hp) (hh : opA P F ops N cls i K τ hp) : opA P F ops N cls i K' τ hp := by
  unfold opA at *
  split
  · exact h _ _ (by simpa [*] using hh)
  · rename_i o ho
    simp only [ho] at hh
    split
    · rename_i hc
      rw [if_pos hc] at hh
      rcases hh with ⟨h1, h2⟩ | ⟨h1, h2⟩
      · exact .inl ⟨h1, h2.mono fun _ _ h3 => ⟨h3.1, h _ _ h3.2⟩⟩
      · exact .inr ⟨h1, h _ _ h2⟩
    · rename_i hc
      rw [if_neg hc] at hh
      obtain ⟨v, h1, h2⟩ := hh
      exact ⟨v, h1, h _ _ h2⟩
def AnyA (P : Program) (F : Frm) (md : Region.Mode) (ops : Array Oper) (N : Nat) (cls : Nat → Nat) (Kf : (Nat → AV) → List Blk → Prop) : Nat → Array Bool → (Nat → AV) → List Blk → Prop
  | 0, listed, τ, hp => Region.ready md ops listed = [] ∧ Kf τ hp
  | fuel + 1, listed, τ, hp => (Region.ready md ops listed = [] → Kf τ hp) ∧ ∀ i ∈ Region.ready md ops listed, opA P F ops N cls i (AnyA P F md ops N cls Kf fuel (listed.setIfInBounds i true)) τ hp
theorem gyes_wanted {M : Mm} {τ : Nat → AV} {hp : List Blk} {a : Act} {w : World} (hr : Rep F M ⟨τ, hp, N⟩ a w) {o : Oper} (h : GYes ops τ o) : Region.wanted o (yielded ops a.tmps) = true := by
  unfold GYes at h
  unfold Region.wanted
  split
  · rfl
  · rename_i g b hg
    rw [hg] at h
    obtain ⟨d, h1, h2⟩ := h
    rw [yielded_of hr h1 h2]
    simp
theorem gno_wanted {M : Mm} {τ : Nat → AV} {hp : List Blk} {a : Act} {w : World} (hr : Rep F M ⟨τ, hp, N⟩ a w) {o : Oper} (h : GNo ops τ o) : Region.wanted o (yielded ops a.tmps) = false := by
  unfold GNo at h
  unfold Region.wanted
  split
  · rename_i hg; rw [hg] at h; exact h.elim
  · rename_i g b hg
    rw [hg] at h
    obtain ⟨d, h1, ⟨c, h2, h3⟩ | h2⟩ := h
    · rw [yielded_of hr h1 h2, h3]
      cases b <;> simp
    · rw [yielded_un hr h1 h2]
      rfl
theorem rep_upd {M M' : Mm} {τ : Nat → AV} {hp hp' : List Blk} {a : Act} {w w' : World} (hr : Rep F M ⟨τ, hp, N⟩ a w) (hs : Sub M M') (hh : HeapOk F M' hp' w') (d : Option Tmp) {v : AV} {u : Value} (hv : RA M' v u) : Rep F M' ⟨updO N d v τ, hp', N⟩ (a.put d u) w' := by
  have := hr.st hs hh d hv
  cases d <;> exact this
theorem wpOp_of_A {Q : Exit → Act → World → Prop} {i : Nat} {K : (Nat → AV) → List Blk → Prop} {K' : Act → World → Prop} {τ : Nat → AV} {hp : List Blk} {M : Mm} {a : Act} {w : World} (hr : Rep F M ⟨τ, hp, N⟩ a w)
    (hk : ∀ M' τ' hp' a' w', K τ' hp' → Rep F M' ⟨τ', hp', N⟩ a' w' → K' a' w') (h : opA P F ops N cls i K τ hp) : wpOp P ops Q i K' a w := by
  unfold opA at h
  unfold wpOp
  split
  · rename_i ho; simp only [ho] at h; exact hk _ _ _ _ _ h hr
  · rename_i o ho
    simp only [ho] at h
    have key : ∀ K2 : AV → List Blk → Prop, GYes ops τ o → LO P F o (evT τ) hp K2 → (∀ v hp', K2 v hp' → K (updO N o.dst v τ) hp') → (if Region.wanted o (yielded ops a.tmps) = true then o.wp P a w K' Q ∨ (o.asks P a w ∧ LetsOut Q) else K' (a.put o.dst undef) w) := by
      intro K2 hg hl h2
      rw [if_pos (gyes_wanted hr hg)]
      refine .inl ((hl.out M a.eval w (fun x _ => by have := hr.ev x; rwa [evT_eq] at this) hr.heap).wp Q fun u w' ⟨M', v, hp', g1, g2, g3, g4⟩ => hk _ _ _ _ _ (h2 v hp' g1) (rep_upd hr g2.sub g3 _ g4))
    have keyn : GNo ops τ o → K (updO N o.dst (.c (.lit undef)) τ) hp → (if Region.wanted o (yielded ops a.tmps) = true then o.wp P a w K' Q ∨ (o.asks P a w ∧ LetsOut Q) else K' (a.put o.dst undef) w) := by
      intro hg h2
      rw [if_neg (by rw [gno_wanted hr hg]; simp)]
      exact hk _ _ _ _ _ h2 (rep_upd hr (Sub.refl _) hr.heap _ (by simp only [RA, RT]))
    by_cases hc : 2 ≤ cls i
    · rw [if_pos hc] at h
      rcases h with ⟨h1, h2⟩ | ⟨h1, h2⟩
      · exact key _ h1 h2 fun _ _ h => h.2
      · exact keyn h1 h2
    · rw [if_neg hc] at h
      obtain ⟨v, h1, h2⟩ := h
      rcases h1 with ⟨hg, h3, h4⟩ | ⟨hg, rfl⟩
      · have hl : LO P F o (evT τ) hp (det v hp) := by
          by_cases h0 : cls i = 0
          · exact h3 h0 hp
          · have := h4 h0 []; rwa [List.append_nil] at this
        exact key _ hg hl fun v' hp' ⟨e1, e2⟩ => by rw [e1, e2]; exact h2
      · exact keyn hg h2
theorem wpAny_of_A {Kf : (Nat → AV) → List Blk → Prop} {Q : Exit → Act → World → Prop} (hQ : ∀ M τ hp a w, Kf τ hp → Rep F M ⟨τ, hp, N⟩ a w → Q .normal a w) : ∀ (fuel : Nat) (listed : Array Bool) (τ : Nat → AV) (hp : List Blk) (M : Mm) (a : Act) (w : World), Rep F M ⟨τ, hp, N⟩ a w →
    AnyA P F md ops N cls Kf fuel listed τ hp → wpAny P md ops Q fuel listed a w
  | 0, _, _, _, _, _, _, hr, h => ⟨h.1, hQ _ _ _ _ _ h.2 hr⟩
  | fuel + 1, _, _, _, _, _, _, hr, h => ⟨fun h0 => hQ _ _ _ _ _ (h.1 h0) hr, fun i hi => wpOp_of_A hr (fun M' τ' hp' a' w' h' hr' => wpAny_of_A hQ fuel _ τ' hp' M' a' w' hr' h') (h.2 i hi)⟩
theorem updO_comm {d d' : Option Tmp} {v v' : AV} {τ : Nat → AV} (h : ∀ x, d = some x → d' ≠ some x) : updO N d v (updO N d' v' τ) = updO N d' v' (updO N d v τ) := by
  cases d with
  | none => rfl
  | some x =>
    cases d' with
    | none => rfl
    | some y =>
      funext i
      simp only [updO, upd]
      cases hx : Nat.beq i x with
      | false => simp
      | true =>
        cases hy : Nat.beq i y with
        | false => simp
        | true =>
          have := Nat.eq_of_beq_eq_true hx
          have := Nat.eq_of_beq_eq_true hy
          subst_vars
          exact absurd rfl (h _ rfl)
theorem updO_far {d : Option Tmp} {v : AV} {τ : Nat → AV} {i : Nat} (h : d ≠ some i) : updO N d v τ i = τ i := by
  cases d with
  | none => rfl
  | some x =>
    simp only [updO, upd]
    have : Nat.beq i x = false := by
      cases hc : Nat.beq i x with
      | false => rfl
      | true => exact absurd (congrArg some (Nat.eq_of_beq_eq_true hc).symm) h
    rw [this]; rfl
theorem mem_looks {o : Oper} {t : Tmp} (h : Operand.tmp t ∈ o.op.operands.toList) : t ∈ o.looksAt ops := by
  unfold Oper.looksAt
  refine List.mem_append_left _ (List.mem_filterMap.2 ⟨_, h, rfl⟩)
theorem evT_far {d : Option Tmp} {v : AV} {τ : Nat → AV} {o : Oper} (h : ∀ x, d = some x → x ∉ o.looksAt ops) : ∀ x ∈ o.op.operands.toList, evT (updO N d v τ) x = evT τ x := by
  intro x hx
  cases x with
  | tmp t => exact updO_far fun e => h t e (mem_looks hx)
  | _ => rfl
theorem look_guard {o : Oper} {g : Nat} {b : Bool} (hg : o.guard = some (g, b)) {x : Tmp} (hx : (ops[g]?).bind (·.dst) = some x) : x ∈ o.looksAt ops := by
  unfold Oper.looksAt
  refine List.mem_append_right _ ?_
  rw [hg]
  simp [hx]
theorem gyes_far {d : Option Tmp} {v : AV} {τ : Nat → AV} {o : Oper} (h : ∀ x, d = some x → x ∉ o.looksAt ops) : GYes ops (updO N d v τ) o ↔ GYes ops τ o := by
  unfold GYes
  split
  · exact Iff.rfl
  · rename_i g b hg
    constructor
    · rintro ⟨x, h1, h2⟩
      exact ⟨x, h1, by rwa [updO_far fun e => h x e (look_guard hg h1)] at h2⟩
    · rintro ⟨x, h1, h2⟩
      exact ⟨x, h1, by rwa [updO_far fun e => h x e (look_guard hg h1)]⟩
theorem gno_far {d : Option Tmp} {v : AV} {τ : Nat → AV} {o : Oper} (h : ∀ x, d = some x → x ∉ o.looksAt ops) : GNo ops (updO N d v τ) o ↔ GNo ops τ o := by
  unfold GNo
  split
  · exact Iff.rfl
  · rename_i g b hg
    constructor
    · rintro ⟨x, h1, h2⟩
      exact ⟨x, h1, by rwa [updO_far fun e => h x e (look_guard hg h1)] at h2⟩
    · rintro ⟨x, h1, h2⟩
      exact ⟨x, h1, by rwa [updO_far fun e => h x e (look_guard hg h1)]⟩
theorem YA.far {k : Nat} {o : Oper} {v u : AV} {d : Option Tmp} {τ : Nat → AV} {hp hp' : List Blk} (hy : YA P F ops k o v τ hp) (h : ∀ x, d = some x → x ∉ o.looksAt ops) (hh : k = 0 ∨ ∃ y, hp' = hp ++ y) : YA P F ops k o v (updO N d u τ) hp' := by
  rcases hy with ⟨h1, h2, h3⟩ | ⟨h1, h2⟩
  · refine .inl ⟨(gyes_far h).2 h1, fun h0 hq => (h2 h0 hq).congr (evT_far h), fun h0 x => ?_⟩
    rcases hh with hh | ⟨y, rfl⟩
    · exact absurd hh h0
    · rw [List.append_assoc]; exact (h3 h0 (y ++ x)).congr (evT_far h)
  · exact .inr ⟨(gno_far h).2 h1, h2⟩
theorem YA.back {k : Nat} {o : Oper} {v u : AV} {d : Option Tmp} {τ : Nat → AV} {hp : List Blk} (hy : YA P F ops k o v (updO N d u τ) hp) (h : ∀ x, d = some x → x ∉ o.looksAt ops) : YA P F ops k o v τ hp := by
  rcases hy with ⟨h1, h2, h3⟩ | ⟨h1, h2⟩
  · exact .inl ⟨(gyes_far h).1 h1, fun h0 hq => (h2 h0 hq).congr (fun x hx => (evT_far h x hx).symm), fun h0 x => (h3 h0 x).congr (fun x hx => (evT_far h x hx).symm)⟩
  · exact .inr ⟨(gno_far h).1 h1, h2⟩
/-- oj, apart from the looking oi, before it -/
theorem opA_put {i j : Nat} {oi oj : Oper} {v : AV} (hj : ops[j]? = some oj) (hap : oi.apart ops oj = true) (hcl : cls j = 2 → cls i = 0) {K : (Nat → AV) → List Blk → Prop} {τ : Nat → AV} {hp : List Blk}
    (hy : YA P F ops (cls i) oi v τ hp) (h : opA P F ops N cls j K (updO N oi.dst v τ) hp) :
    opA P F ops N cls j (fun τ' hp' => YA P F ops (cls i) oi v τ' hp' ∧ K (updO N oi.dst v τ') hp') τ hp := by
  obtain ⟨h1, h2, h3⟩ := Oper.apart_spec hap
  have hcomm : ∀ u, updO N oj.dst u (updO N oi.dst v τ) = updO N oi.dst v (updO N oj.dst u τ) := fun u => updO_comm (fun x hx e => h2 x e hx)
  unfold opA at *
  simp only [hj] at *
  by_cases hc : 2 ≤ cls j
  · rw [if_pos hc] at h ⊢
    rcases h with ⟨hg, hl⟩ | ⟨hg, hk⟩
    · refine .inl ⟨(gyes_far h1).1 hg, (hl.mono fun u hp' hk => ⟨hk.1, hy.far h3 ?_, ?_⟩).congr fun x hx => (evT_far h1 x hx).symm⟩
      · exact hk.1.imp hcl id
      · rw [← hcomm]; exact hk.2
    · refine .inr ⟨(gno_far h1).1 hg, hy.far h3 (.inr ⟨[], by simp⟩), ?_⟩
      rw [← hcomm]; exact hk
  · rw [if_neg hc] at h ⊢
    obtain ⟨u, hu, hk⟩ := h
    refine ⟨u, hu.back h1, hy.far h3 (.inr ⟨[], by simp⟩), ?_⟩
    rw [← hcomm]; exact hk
/-- j waits for i, directly or not -/
def reachB (md : Region.Mode) (ops : Array Oper) : Nat → Nat → Nat → Bool
  | 0, _, _ => false
  | f + 1, j, i => match ops[j]? with
    | some oj => oj.after.any fun e => Region.binds md e && (e.on == i || reachB md ops f e.on i)
    | none => false
def ClosedL (md : Region.Mode) (ops : Array Oper) (listed : Array Bool) : Prop :=
  ∀ j oj, ops[j]? = some oj → listed.getD j false = true → ∀ e ∈ oj.after, Region.binds md e = true → listed.getD e.on false = true
theorem reach_un {listed : Array Bool} (hc : ClosedL md ops listed) {i : Nat} (hi : listed.getD i false = false) : ∀ (f j : Nat), reachB md ops f j i = true → ∀ oj, ops[j]? = some oj → ∃ e ∈ oj.after, Region.binds md e = true ∧ listed.getD e.on false = false
  | 0, _, h, _, _ => by cases h
  | f + 1, j, h, oj, hj => by
    unfold reachB at h
    rw [hj] at h
    obtain ⟨e, he, hb⟩ := Array.any_eq_true'.1 h
    simp only [Bool.and_eq_true, Bool.or_eq_true, beq_iff_eq] at hb
    refine ⟨e, he, hb.1, ?_⟩
    rcases hb.2 with h2 | h2
    · rw [h2]; exact hi
    · cases hl : listed.getD e.on false with
      | false => rfl
      | true =>
        cases ho : ops[e.on]? with
        | none =>
          cases f with
          | zero => cases h2
          | succ f => unfold reachB at h2; rw [ho] at h2; cases h2
        | some oe =>
          obtain ⟨e', he', hb', hun⟩ := reach_un hc hi f e.on h2 oe ho
          rw [hc e.on oe ho hl e' he' hb'] at hun
          cases hun
theorem reach_not_ready {listed : Array Bool} (hc : ClosedL md ops listed) {i j f : Nat} (hi : listed.getD i false = false) (h : reachB md ops f j i = true) : j ∉ Region.ready md ops listed := by
  intro hr
  obtain ⟨_, oj, hoj, hall⟩ := mem_ready.1 hr
  obtain ⟨e, he, hb, hun⟩ := reach_un hc hi f j h oj hoj
  rw [hall e he hb] at hun
  cases hun
theorem ClosedL.set {listed : Array Bool} (hc : ClosedL md ops listed) {i : Nat} (hi : i ∈ Region.ready md ops listed) : ClosedL md ops (listed.setIfInBounds i true) := by
  obtain ⟨_, oi, hoi, hall⟩ := mem_ready.1 hi
  intro j oj hj hl e he hb
  by_cases hij : i = j
  · subst hij
    have : oj = oi := Option.some.inj (hj.symm.trans hoi)
    subst this
    exact getD_set_true (hall e he hb)
  · rw [getD_set_ne false hij] at hl
    exact getD_set_true (hc j oj hj hl e he hb)
/-- what must hold of all others, for a looking operation to be taken first -/
def freeA (md : Region.Mode) (ops : Array Oper) (cls : Nat → Nat) (listed : Array Bool) (i : Nat) : Bool :=
  match ops[i]? with
  | none => false
  | some oi => (List.range ops.size).all fun j => j == i || listed.getD j true || reachB md ops ops.size j i ||
      (match ops[j]? with | some oj => oi.apart ops oj && (cls j != 2 || cls i == 0) | none => true)
theorem getD_false_of {listed : Array Bool} {i : Nat} (h : listed.getD i true = false) : listed.getD i false = false := by
  rcases Nat.lt_or_ge i listed.size with h' | h'
  · simp [h'] at h ⊢; exact h
  · simp [Array.getElem?_eq_none h'] at h
theorem anyA_first {Kf : (Nat → AV) → List Blk → Prop} {i : Nat} {oi : Oper} {v : AV} (hi : ops[i]? = some oi) :
    ∀ (fuel : Nat) (listed : Array Bool) (τ : Nat → AV) (hp : List Blk), ClosedL md ops listed →
      (∀ j oj, ops[j]? = some oj → j ≠ i → listed.getD j true = false → reachB md ops ops.size j i = false → oi.apart ops oj = true ∧ (cls j = 2 → cls i = 0)) →
      i ∈ Region.ready md ops listed → YA P F ops (cls i) oi v τ hp → ¬ 2 ≤ cls i →
      AnyA P F md ops N cls Kf fuel (listed.setIfInBounds i true) (updO N oi.dst v τ) hp → AnyA P F md ops N cls Kf (fuel + 1) listed τ hp := by
  have self : ∀ {K : (Nat → AV) → List Blk → Prop} {τ : Nat → AV} {hp : List Blk}, YA P F ops (cls i) oi v τ hp → ¬ 2 ≤ cls i → K (updO N oi.dst v τ) hp → opA P F ops N cls i K τ hp := by
    intro K τ hp hy h2 hk
    unfold opA
    simp only [hi]
    rw [if_neg h2]
    exact ⟨v, hy, hk⟩
  intro fuel
  induction fuel with
  | zero =>
    intro listed τ hp _ _ hr hy h2 H
    refine ⟨fun h => (by rw [h] at hr; cases hr), fun j hj => ?_⟩
    by_cases hji : j = i
    · subst hji; exact self hy h2 H
    · have := ready_mono hj hji
      rw [H.1] at this
      cases this
  | succ fuel ih =>
    intro listed τ hp hcl hfree hr hy h2 H
    refine ⟨fun h => (by rw [h] at hr; cases hr), fun j hj => ?_⟩
    by_cases hji : j = i
    · subst hji; exact self hy h2 H
    · have h1 := H.2 j (ready_mono hj hji)
      obtain ⟨hjun, oj, hoj, hall⟩ := mem_ready.1 hj
      have hiun := getD_false_of (mem_ready.1 hr).1
      have hnr : reachB md ops ops.size j i = false := by
        cases hc : reachB md ops ops.size j i with
        | false => rfl
        | true => exact absurd hj (reach_not_ready hcl hiun hc)
      obtain ⟨hap, hcc⟩ := hfree j oj hoj hji hjun hnr
      have h3 := opA_put hoj hap hcc hy h1
      have hfree' : ∀ k ok, ops[k]? = some ok → k ≠ i → (listed.setIfInBounds j true).getD k true = false → reachB md ops ops.size k i = false → oi.apart ops ok = true ∧ (cls k = 2 → cls i = 0) := fun k ok hk hki hun hno => by
        refine hfree k ok hk hki ?_ hno
        by_cases hjk : j = k
        · subst hjk; exact hjun
        · rw [getD_set_ne true hjk] at hun; exact hun
      refine opA_mono (fun τ' hp' h4 => ih (listed.setIfInBounds j true) τ' hp' (hcl.set hj) hfree' (ready_mono hr (Ne.symm hji)) h4.1 h2 ?_) h3
      rw [Array.setIfInBounds_comm _ _ hji]
      exact h4.2
/-- the order of the walk, checked -/
def ordB (md : Region.Mode) (ops : Array Oper) (cls : Nat → Nat) : List Nat → Array Bool → Bool
  | [], listed => (Region.ready md ops listed).isEmpty
  | i :: r, listed => (if 2 ≤ cls i then decide (Region.ready md ops listed = [i]) else (Region.ready md ops listed).contains i && freeA md ops cls listed i) && ordB md ops cls r (listed.setIfInBounds i true)
def WO (P : Program) (F : Frm) (ops : Array Oper) (N : Nat) (cls : Nat → Nat) (Kf : (Nat → AV) → List Blk → Prop) : List Nat → (Nat → AV) → List Blk → Prop
  | [], τ, hp => Kf τ hp
  | i :: r, τ, hp => opA P F ops N cls i (WO P F ops N cls Kf r) τ hp
theorem anyA_ord {Kf : (Nat → AV) → List Blk → Prop} : ∀ (r : List Nat) (listed : Array Bool) (τ : Nat → AV) (hp : List Blk), ClosedL md ops listed → ordB md ops cls r listed = true → WO P F ops N cls Kf r τ hp → AnyA P F md ops N cls Kf r.length listed τ hp
  | [], listed, τ, hp, _, hB, h => ⟨by simpa [ordB] using hB, h⟩
  | i :: r, listed, τ, hp, hc, hB, h => by
    simp only [ordB, Bool.and_eq_true] at hB
    obtain ⟨hB1, hB2⟩ := hB
    by_cases h2 : 2 ≤ cls i
    · rw [if_pos h2] at hB1
      have hr := of_decide_eq_true hB1
      refine ⟨fun h0 => (by rw [hr] at h0; cases h0), fun j hj => ?_⟩
      have : j = i := by rw [hr] at hj; simpa using hj
      subst this
      exact opA_mono (fun τ' hp' h' => anyA_ord r _ τ' hp' (hc.set hj) hB2 h') h
    · rw [if_neg h2] at hB1
      simp only [Bool.and_eq_true] at hB1
      obtain ⟨hr, hf⟩ := hB1
      have hr' : i ∈ Region.ready md ops listed := by simpa using hr
      obtain ⟨_, oi, hoi, _⟩ := mem_ready.1 hr'
      have h' := h
      simp only [WO] at h'
      unfold opA at h'
      simp only [hoi] at h'
      rw [if_neg h2] at h'
      obtain ⟨v, hy, hk⟩ := h'
      refine anyA_first hoi r.length listed τ hp hc ?_ hr' hy h2 (anyA_ord r _ _ _ (hc.set hr') hB2 hk)
      intro j oj hj hji hun hno
      unfold freeA at hf
      rw [hoi] at hf
      have := List.all_eq_true.1 hf j (List.mem_range.2 (Array.getElem?_eq_some_iff.1 hj).1)
      rw [hj] at this
      simp only [hun, hno, Bool.or_false, Bool.or_eq_true, beq_iff_eq, hji, false_or, Bool.and_eq_true, bne_iff_ne] at this
      exact ⟨this.1, fun e => by rcases this.2 with h | h; exact absurd e h; exact h⟩
end
section
variable {P : Program} {F : Frm} {τ : Nat → AV} {hp : List Blk} {N : Nat} {Q : Exit → AS → Prop} {id : Nat} {l : List Oper}
def clsOf (c : List Nat) (i : Nat) : Nat := c.getD i 1
/-- a region that draws its order, walked in the order r; c: the classes -/
theorem ac_draw (c r : List Nat) (hm : P.follows .mixedOrders = true) (hB : (ordB .any l.toArray (clsOf c) r (Array.replicate l.toArray.size false) && Nat.beq r.length l.length) = true)
    (h : WO P F l.toArray N (clsOf c) (fun τ' hp' => Q .normal ⟨τ', hp', N⟩) r τ hp) : AC P F (.region id l.toArray true) Q ⟨τ, hp, N⟩ := by
  refine ⟨fun M a w hr => ?_⟩
  simp only [Bool.and_eq_true] at hB
  have hlen := Nat.eq_of_beq_eq_true hB.2
  have hrd : Rep F M ⟨τ, hp, N⟩ a { w with drawn := w.drawn + 1 } := ⟨hr.tmps, hr.size, hr.defers, hr.heap.drew⟩
  have hcl : ClosedL .any l.toArray (Array.replicate l.toArray.size false) := fun j oj _ hl => by rw [getD_replicate_false] at hl; cases hl
  refine wp_region_any hm ?_
  have H := wpAny_of_A (Q := fun e a' w' => ∃ M' σ', Q e σ' ∧ Rep F M' σ' a' w') (fun M τ hp a w hk hr => ⟨M, _, hk, hr⟩) _ _ _ _ _ _ _ hrd (anyA_ord r _ τ hp hcl hB.1 h)
  rwa [hlen, show l.length = l.toArray.size by simp] at H
end
section
variable {P : Program} {F : Frm} {ops : Array Oper} {N : Nat} {cls : Nat → Nat} {Kf : (Nat → AV) → List Blk → Prop} {τ : Nat → AV} {hp : List Blk} {r : List Nat} {i : Nat} {d : Option Tmp} {op : Op} {ty : TypeId} {pos : String} {aft : Array Edge} {g : Nat} {b c : Bool} {dg t : Tmp}
theorem w_nil (h : Kf τ hp) : WO P F ops N cls Kf [] τ hp := h
/-- looks, and leaves the blocks -/
theorem w_q {v : AV} (ho : ops[i]? = some ⟨d, op, ty, pos, aft, none⟩) (hc : Nat.beq (cls i) 1 = true) (hl : ∀ x, LO P F ⟨d, op, ty, pos, aft, none⟩ (evT τ) (hp ++ x) (det v (hp ++ x))) (h : WO P F ops N cls Kf r (updO N d v τ) hp) : WO P F ops N cls Kf (i :: r) τ hp := by
  have hc := Nat.eq_of_beq_eq_true hc
  simp only [WO]
  unfold opA
  simp only [ho]
  rw [if_neg (by omega)]
  exact ⟨v, .inl ⟨trivial, fun h0 => by omega, fun _ => hl⟩, h⟩
/-- does not look at the blocks -/
theorem w_p {v : AV} (ho : ops[i]? = some ⟨d, op, ty, pos, aft, none⟩) (hc : Nat.beq (cls i) 0 = true) (hl : ∀ hp', LO P F ⟨d, op, ty, pos, aft, none⟩ (evT τ) hp' (det v hp')) (h : WO P F ops N cls Kf r (updO N d v τ) hp) : WO P F ops N cls Kf (i :: r) τ hp := by
  have hc := Nat.eq_of_beq_eq_true hc
  simp only [WO]
  unfold opA
  simp only [ho]
  rw [if_neg (by omega)]
  exact ⟨v, .inl ⟨trivial, fun _ => hl, fun h0 => absurd hc h0⟩, h⟩
/-- writes -/
theorem w_l (ho : ops[i]? = some ⟨d, op, ty, pos, aft, none⟩) (hc : Nat.beq (cls i) 2 = true) (hl : LO P F ⟨d, op, ty, pos, aft, none⟩ (evT τ) hp fun v hp' => WO P F ops N cls Kf r (updO N d v τ) hp') : WO P F ops N cls Kf (i :: r) τ hp := by
  have hc := Nat.eq_of_beq_eq_true hc
  simp only [WO]
  unfold opA
  simp only [ho]
  rw [if_pos (by omega)]
  exact .inl ⟨trivial, hl.mono fun _ _ h => ⟨.inl hc, h⟩⟩
theorem det_refl {v : AV} {hp : List Blk} : det v hp v hp := ⟨rfl, rfl⟩
theorem w_qg {v : AV} (ho : ops[i]? = some ⟨d, op, ty, pos, aft, some (g, b)⟩) (hc : Nat.beq (cls i) 1 = true) (hd : (ops[g]?).bind (·.dst) = some dg) (hv : τ dg = .c (.lit (.bool c))) (hcb : c = b) (hl : ∀ x, LO P F ⟨d, op, ty, pos, aft, some (g, b)⟩ (evT τ) (hp ++ x) (det v (hp ++ x))) (h : WO P F ops N cls Kf r (updO N d v τ) hp) : WO P F ops N cls Kf (i :: r) τ hp := by
  have hc := Nat.eq_of_beq_eq_true hc
  subst hcb
  simp only [WO]
  unfold opA
  simp only [ho]
  rw [if_neg (by omega)]
  exact ⟨v, .inl ⟨⟨dg, hd, hv⟩, fun h0 => by omega, fun _ => hl⟩, h⟩
theorem w_no (ho : ops[i]? = some ⟨d, op, ty, pos, aft, some (g, b)⟩) (hc : Nat.ble (cls i) 1 = true) (hd : (ops[g]?).bind (·.dst) = some dg) (hv : τ dg = .c (.lit (.bool c))) (hcb : c = !b) (h : WO P F ops N cls Kf r (updO N d (.c (.lit undef)) τ) hp) : WO P F ops N cls Kf (i :: r) τ hp := by
  have hc := Nat.le_of_ble_eq_true hc
  simp only [WO]
  unfold opA
  simp only [ho]
  rw [if_neg (by omega)]
  exact ⟨_, .inr ⟨⟨dg, hd, .inl ⟨c, hv, hcb⟩⟩, rfl⟩, h⟩
theorem w_un (ho : ops[i]? = some ⟨d, op, ty, pos, aft, some (g, b)⟩) (hc : Nat.ble (cls i) 1 = true) (hd : (ops[g]?).bind (·.dst) = some dg) (hv : τ dg = .c (.lit undef)) (h : WO P F ops N cls Kf r (updO N d (.c (.lit undef)) τ) hp) : WO P F ops N cls Kf (i :: r) τ hp := by
  have hc := Nat.le_of_ble_eq_true hc
  simp only [WO]
  unfold opA
  simp only [ho]
  rw [if_neg (by omega)]
  exact ⟨_, .inr ⟨⟨dg, hd, .inr hv⟩, rfl⟩, h⟩
end
end Go.Proofs.YtbfomgchjlkopaaDoor
namespace Go.Proofs.YtbfomgchjlkopaaDoor
open Go.RowKit
mutual
def Rz2 (hp : List Blk) : AV → T → Prop
  | .ptr i b off, t' => ∃ ty cs ts, hp[i]? = some (.box b ty cs) ∧ Rzs hp cs ts ∧ t' = .pin ts off
  | .fn f cap, t' => ∃ ts, t' = .fn f ts ∧ Rz2s hp cap ts
  | .c t, t' => Rz hp (.c t) t'
  | .own i v, t' => Rz hp (.own i v) t'
  | .agg cs, t' => Rz hp (.agg cs) t'
  | .tup cs, t' => Rz hp (.tup cs) t'
  | .eptr _ _ _, _ => False
  | .junk, _ => False
def Rz2s (hp : List Blk) : List AV → List T → Prop
  | [], ts => ts = []
  | a :: asq, ts => ∃ t r, ts = t :: r ∧ Rz2 hp a t ∧ Rz2s hp asq r
end
section
variable {hp : List Blk}
theorem rz2_ptr {i b off : Nat} {ty : TypeId} {cs : List AV} {ts : List T} (h : hp[i]? = some (.box b ty cs)) (h' : Rzs hp cs ts) : Rz2 hp (.ptr i b off) (.pin ts off) := by simp only [Rz2]; exact ⟨ty, cs, ts, h, h', rfl⟩
theorem rz2_fn {f : Fn} {cs : List AV} {ts : List T} (h : Rz2s hp cs ts) : Rz2 hp (.fn f cs) (.fn f ts) := by simp only [Rz2]; exact ⟨ts, rfl, h⟩
theorem rz2_c {t t' : T} (h : Rz hp (.c t) t') : Rz2 hp (.c t) t' := by simp only [Rz2]; exact h
theorem rz2_own {i : Nat} {v : Value} {t' : T} (h : Rz hp (.own i v) t') : Rz2 hp (.own i v) t' := by simp only [Rz2]; exact h
theorem rz2_agg {cs : List AV} {t' : T} (h : Rz hp (.agg cs) t') : Rz2 hp (.agg cs) t' := by simp only [Rz2]; exact h
theorem rz2s_nil : Rz2s hp [] [] := by simp only [Rz2s]
theorem rz2s_cons {a : AV} {asq : List AV} {t : T} {ts : List T} (h : Rz2 hp a t) (h' : Rz2s hp asq ts) : Rz2s hp (a :: asq) (t :: ts) := by simp only [Rz2s]; exact ⟨t, ts, rfl, h, h'⟩
theorem rzs_self : ∀ {ts : List T}, Rzs hp (ts.map .c) ts
  | [] => by simp only [List.map_nil, Rzs]
  | t :: ts => by simp only [List.map_cons, Rzs]; exact ⟨t, ts, rfl, rz_c, rzs_self⟩
end
section
variable {P : Program} {F : Frm}
mutual
theorem rz2_sound {M : Mm} {hp : List Blk} {w : World} (h : HeapOk F M hp w) {B : Nat} (hB : ∀ (i : Nat) x b, hp[i]? = some x → x.blk = some b → B ≤ b) : ∀ (av : AV) (t : T) (u : Value), Rz2 hp av t → RA M av u → RT (frz M B w) t u
  | .ptr i b off, t', u, hz, hr => by
    simp only [Rz2] at hz
    obtain ⟨ty, cs, ts, h1, h2, rfl⟩ := hz
    simp only [RA] at hr
    subst hr
    obtain ⟨xs, hh, hx, hone⟩ := h.at_ i _ h1
    simp only [RT]
    refine ⟨⟨b, 0, none⟩, xs, by unfold Addr.add; split <;> simp_all, fun j x hj => ?_, rzs_sound h hB _ _ _ h2 hx⟩
    have hadd : (⟨b, 0, none⟩ : Addr).add j = ⟨b, j, none⟩ := by unfold Addr.add; split <;> simp_all
    rw [hadd]
    refine frz_new ((h.out i _ b h1 rfl).2 _ rfl) (hB i _ b h1 rfl) ?_ (hone x (List.mem_of_getElem? hj))
    rw [cell_of_row _ b j _ _ _ hh]
    simpa using hj
  | .fn f cap, t', u, hz, hr => by
    simp only [Rz2] at hz
    obtain ⟨ts, rfl, h1⟩ := hz
    simp only [RA] at hr
    obtain ⟨xs, rfl, h2⟩ := hr
    simp only [RT]
    exact ⟨xs, rfl, rz2s_sound h hB cap ts xs h1 h2⟩
  | .c t, t', u, hz, hr => by simp only [Rz2] at hz; exact rz_sound h hB _ _ _ hz hr
  | .own i v, t', u, hz, hr => by simp only [Rz2] at hz; exact rz_sound h hB _ _ _ hz hr
  | .agg cs, t', u, hz, hr => by simp only [Rz2] at hz; exact rz_sound h hB _ _ _ hz hr
  | .tup cs, t', u, hz, hr => by simp only [Rz2] at hz; exact rz_sound h hB _ _ _ hz hr
  | .eptr _ _ _, _, _, hz, _ => by simp only [Rz2] at hz
  | .junk, _, _, hz, _ => by simp only [Rz2] at hz
theorem rz2s_sound {M : Mm} {hp : List Blk} {w : World} (h : HeapOk F M hp w) {B : Nat} (hB : ∀ (i : Nat) x b, hp[i]? = some x → x.blk = some b → B ≤ b) : ∀ (asq : List AV) (ts : List T) (us : List Value), Rz2s hp asq ts → RAs M asq us → RTs (frz M B w) ts us
  | [], ts, us, hz, hr => by
    simp only [Rz2s] at hz
    simp only [RAs] at hr
    subst hz; subst hr
    simp only [RTs]
  | a :: asq, ts, us, hz, hr => by
    simp only [Rz2s] at hz
    obtain ⟨t, r, rfl, h1, h2⟩ := hz
    simp only [RAs] at hr
    obtain ⟨x, xs, rfl, h3, h4⟩ := hr
    simp only [RTs]
    exact ⟨x, xs, rfl, rz2_sound h hB a t x h1 h3, rz2s_sound h hB asq r xs h2 h4⟩
end
variable {d : Option Tmp} {ty : TypeId} {pos : String} {aft : Array Edge} {g : Option (Nat × Bool)} {ρ : Operand → AV} {hp : List Blk} {K : AV → List Blk → Prop}
theorem v_peek {f : FuncId} {y : Operand} {xs : List Operand} {ats : Array TypeId} {ts : List T} {R : T → Prop} {cap : List AV} (hc : AF P f ts R) (hy : ρ y = .fn (.func f) cap) (hx : Rz2s hp (xs.map ρ ++ cap) ts) (h : ∀ r, R r → flatT r = true ∧ K (.c r) hp) : LO P F ⟨d, .call { callee := .value y, args := xs.toArray, argTypes := ats }, ty, pos, aft, g⟩ ρ hp K := by
  refine ⟨fun M e w he hh => ?_⟩
  obtain ⟨hf, hcall⟩ := hc
  have h1 := he y (by simp [Op.operands, Call.operands])
  rw [hy] at h1
  simp only [RA] at h1
  obtain ⟨cs, hu, hcs⟩ := h1
  rw [run_call hf hu]
  have hargs := rz2s_sound hh (B := 0) (fun _ _ _ _ _ => Nat.zero_le _) _ _ _ hx ((ev_all xs (fun x hx => he x (by simp [Op.operands, Call.operands, hx]))).app hcs)
  refine (hcall _ w _ hh.glob (frz_ok hh.mem 0) hargs).mono ?_
  rintro en w' ⟨v, r, M', rfl, hR, _, _, hrt, hb⟩
  exact ⟨v, rfl, M, _, hp, (h r hR).2, Ext.refl _ _, hh.below hb (Ext.refl _ _) (hh.mem.below hb), by simp only [RA]; exact flat_any _ _ (h r hR).1 hrt⟩
end
attribute [irreducible] Rz2 Rz2s
/-- the place of the first that p holds of, or -1 -/
def idxI {α : Type} (p : α → Bool) (l : List α) : Int := match l.findIdx? p with | some i => (i : Int) | none => -1
theorem idxI_cons {α : Type} (p : α → Bool) (a : α) (l : List α) : idxI p (a :: l) = if p a then 0 else (if idxI p l < 0 then -1 else idxI p l + 1) := by
  unfold idxI
  rw [List.findIdx?_cons]
  cases hp : p a with
  | true => simp
  | false =>
    cases h : l.findIdx? p with
    | none => simp
    | some i => simp; omega
/-- at place k: not found before -/
def idxAt {α : Type} (p : α → Bool) (l : List α) (k : Nat) : Prop := idxI p l = if idxI p (l.drop k) < 0 then -1 else idxI p (l.drop k) + k
theorem idxAt_zero {α : Type} (p : α → Bool) (l : List α) : idxAt p l 0 := by
  unfold idxAt
  rw [List.drop_zero]
  split
  · rename_i h
    unfold idxI at *
    split
    · rename_i i hi; rw [hi] at h; simp only at h; omega
    · rfl
  · simp
theorem idxAt_no {α : Type} {p : α → Bool} {l : List α} {k : Nat} {a : α} (h : idxAt p l k) (ha : l[k]? = some a) (hp : p a = false) : idxAt p l (k + 1) := by
  unfold idxAt at *
  obtain ⟨h1, rfl⟩ := List.getElem?_eq_some_iff.1 ha
  rw [List.drop_eq_getElem_cons h1, idxI_cons, hp] at h
  rw [h]
  simp only [Bool.false_eq_true, if_false]
  by_cases hc : idxI p (l.drop (k + 1)) < 0
  · simp [hc]
  · simp only [hc, if_false]
    rw [if_neg (by omega)]
    omega
theorem idxAt_yes {α : Type} {p : α → Bool} {l : List α} {k : Nat} {a : α} (h : idxAt p l k) (ha : l[k]? = some a) (hp : p a = true) : idxI p l = k := by
  unfold idxAt at h
  obtain ⟨h1, rfl⟩ := List.getElem?_eq_some_iff.1 ha
  rw [List.drop_eq_getElem_cons h1, idxI_cons, hp] at h
  simpa using h
theorem idxAt_end {α : Type} {p : α → Bool} {l : List α} (h : idxAt p l l.length) : idxI p l = -1 := by
  unfold idxAt at h
  rw [List.drop_length] at h
  simpa [idxI] using h
end Go.Proofs.YtbfomgchjlkopaaDoor
namespace Go.Proofs.YtbfomgchjlkopaaDoor
open Go.RowKit
/-- what a slot holds, laid open -/
def fc : AV → Option AV
  | .c t => some (.c t)
  | .agg cs => some (.agg cs)
  | .tup cs => some (.tup cs)
  | .fn f cap => some (.fn f cap)
  | .ptr i b off => some (.ptr i b off)
  | .own i v => some (.own i v)
  | .eptr i v k => some (.eptr i v k)
  | .junk => none
theorem fc_eq : ∀ {v u : AV}, fc v = some u → v = u
  | .c _, _, h => by injection h
  | .agg _, _, h => by injection h
  | .tup _, _, h => by injection h
  | .fn _ _, _, h => by injection h
  | .ptr _ _ _, _, h => by injection h
  | .own _ _, _, h => by injection h
  | .eptr _ _ _, _, h => by injection h
  | .junk, _, h => by cases h
section
variable {P : Program} {F : Frm} {L : Tab} {ops : Array Oper} {K : AS → Prop} {τ : Nat → AV} {hp : List Blk} {N : Nat} {rest : List Oper} {op : Op} {ty : TypeId} {pos : String} {aft : Array Edge} {g : Nat} {b c : Bool} {d t : Tmp} {σ : AS}
theorem zNil (h : K σ) : AL P F ops K [] σ := al_nil h
theorem zOp (h : LO P F ⟨some t, op, ty, pos, aft, none⟩ (evT τ) hp fun v hp' => AL P F ops K rest ⟨upd N t v τ, hp', N⟩) : AL P F ops K (⟨some t, op, ty, pos, aft, none⟩ :: rest) ⟨τ, hp, N⟩ := x_op h
theorem zOpn (h : LO P F ⟨none, op, ty, pos, aft, none⟩ (evT τ) hp fun _ hp' => AL P F ops K rest ⟨τ, hp', N⟩) : AL P F ops K (⟨none, op, ty, pos, aft, none⟩ :: rest) ⟨τ, hp, N⟩ := x_opn h
theorem zYes (h : LO P F ⟨some t, op, ty, pos, aft, some (g, b)⟩ (evT τ) hp fun v hp' => AL P F ops K rest ⟨upd N t v τ, hp', N⟩) (hd : (ops[g]?).bind (·.dst) = some d := by exact rfl) (hv : τ d = .c (.lit (.bool c)) := by exact rfl) (hc : c = b := by first | exact rfl | assumption | exact neg_t (by assumption) | exact neg_f (by assumption)) :
    AL P F ops K (⟨some t, op, ty, pos, aft, some (g, b)⟩ :: rest) ⟨τ, hp, N⟩ := x_yes hd hv hc h
theorem zYesn (h : LO P F ⟨none, op, ty, pos, aft, some (g, b)⟩ (evT τ) hp fun _ hp' => AL P F ops K rest ⟨τ, hp', N⟩) (hd : (ops[g]?).bind (·.dst) = some d := by exact rfl) (hv : τ d = .c (.lit (.bool c)) := by exact rfl) (hc : c = b := by first | exact rfl | assumption | exact neg_t (by assumption) | exact neg_f (by assumption)) :
    AL P F ops K (⟨none, op, ty, pos, aft, some (g, b)⟩ :: rest) ⟨τ, hp, N⟩ := x_yesn hd hv hc h
theorem zNo (h : AL P F ops K rest ⟨upd N t (.c (.lit undef)) τ, hp, N⟩) (hd : (ops[g]?).bind (·.dst) = some d := by exact rfl) (hv : τ d = .c (.lit (.bool c)) := by exact rfl) (hc : c = !b := by first | exact rfl | assumption | exact neg_t (by assumption) | exact neg_f (by assumption)) :
    AL P F ops K (⟨some t, op, ty, pos, aft, some (g, b)⟩ :: rest) ⟨τ, hp, N⟩ := x_no hd hv hc h
theorem zNon (h : AL P F ops K rest ⟨τ, hp, N⟩) (hd : (ops[g]?).bind (·.dst) = some d := by exact rfl) (hv : τ d = .c (.lit (.bool c)) := by exact rfl) (hc : c = !b := by first | exact rfl | assumption | exact neg_t (by assumption) | exact neg_f (by assumption)) :
    AL P F ops K (⟨none, op, ty, pos, aft, some (g, b)⟩ :: rest) ⟨τ, hp, N⟩ := x_non hd hv hc h
theorem zUn (h : AL P F ops K rest ⟨upd N t (.c (.lit undef)) τ, hp, N⟩) (hd : (ops[g]?).bind (·.dst) = some d := by exact rfl) (hv : τ d = .c (.lit undef) := by exact rfl) : AL P F ops K (⟨some t, op, ty, pos, aft, some (g, b)⟩ :: rest) ⟨τ, hp, N⟩ := x_un hd hv h
theorem zUnn (h : AL P F ops K rest ⟨τ, hp, N⟩) (hd : (ops[g]?).bind (·.dst) = some d := by exact rfl) (hv : τ d = .c (.lit undef) := by exact rfl) : AL P F ops K (⟨none, op, ty, pos, aft, some (g, b)⟩ :: rest) ⟨τ, hp, N⟩ := x_unn hd hv h
end
section
variable {P : Program} {F : Frm} {L : Tab} {τ τ' : Nat → AV} {hp hp' : List Blk} {N : Nat} {Q : Exit → AS → Prop}
theorem zT {c : Operand} {x y : Code} {t : Bool} (h : AC P F x Q ⟨τ, hp, N⟩) (hc : evT τ c = .c (.lit (.bool t)) := by exact rfl) (ht : t = true := by first | exact rfl | assumption | exact neg_t (by assumption)) : AC P F (.cond c x y) Q ⟨τ, hp, N⟩ := x_t hc ht h
theorem zF {c : Operand} {x y : Code} {t : Bool} (h : AC P F y Q ⟨τ, hp, N⟩) (hc : evT τ c = .c (.lit (.bool t)) := by exact rfl) (ht : t = false := by first | exact rfl | assumption | exact neg_f (by assumption)) : AC P F (.cond c x y) Q ⟨τ, hp, N⟩ := x_f hc ht h
end
section
variable {P : Program} {F : Frm} {L : Tab} {d : Option Tmp} {ty : TypeId} {pos : String} {aft : Array Edge} {g : Option (Nat × Bool)} {ρ : Operand → AV} {hp : List Blk} {K : AV → List Blk → Prop}
theorem zkL {t : TypeId} {x : Operand} (h : LO P F ⟨d, .load t x, ty, pos, aft, g⟩ ρ hp K) : LO P F ⟨d, .load t x, ty, pos, aft, g⟩ ρ hp K := h
theorem zkF {t : TypeId} {x : Operand} {k : Nat} (h : LO P F ⟨d, .fieldAddr t x k, ty, pos, aft, g⟩ ρ hp K) : LO P F ⟨d, .fieldAddr t x k, ty, pos, aft, g⟩ ρ hp K := h
theorem zkB {o : BinOp} {t t' : TypeId} {x y : Operand} (h : LO P F ⟨d, .binOp o t x y t', ty, pos, aft, g⟩ ρ hp K) : LO P F ⟨d, .binOp o t x y t', ty, pos, aft, g⟩ ρ hp K := h
theorem zkI {b : Builtin} {xs : Array Operand} {ts : Array TypeId} (h : LO P F ⟨d, .call { callee := .builtin b, args := xs, argTypes := ts }, ty, pos, aft, g⟩ ρ hp K) : LO P F ⟨d, .call { callee := .builtin b, args := xs, argTypes := ts }, ty, pos, aft, g⟩ ρ hp K := h
theorem zM {x : Operand} {v : AV} (h : K v hp) (hv : fc (ρ x) = some v := by exact rfl) : LO P F ⟨d, .move x, ty, pos, aft, g⟩ ρ hp K := lo_move (fc_eq hv) h
theorem zA {x : Operand} {v : AV} (h : K v hp) (hv : fc (ρ x) = some v := by exact rfl) : LO P F ⟨d, .assign x, ty, pos, aft, g⟩ ρ hp K := lo_assign (fc_eq hv) h
theorem zPt {c x y : Operand} {v : AV} {b : Bool} (h : K v hp) (hc : ρ c = .c (.lit (.bool b)) := by exact rfl) (hb : b = true := by first | exact rfl | assumption | exact neg_t (by assumption)) (hv : fc (ρ x) = some v := by exact rfl) : LO P F ⟨d, .pick c x y, ty, pos, aft, g⟩ ρ hp K := v_pick_t hc hb (fc_eq hv) h
theorem zPf {c x y : Operand} {v : AV} {b : Bool} (h : K v hp) (hc : ρ c = .c (.lit (.bool b)) := by exact rfl) (hb : b = false := by first | exact rfl | assumption | exact neg_f (by assumption)) (hv : fc (ρ y) = some v := by exact rfl) : LO P F ⟨d, .pick c x y, ty, pos, aft, g⟩ ρ hp K := v_pick_f hc hb (fc_eq hv) h
theorem zE {x : Operand} {ts : List T} {k : Nat} {t : T} (h : K (.c t) hp) (hx : ρ x = .c (.tup ts) := by exact rfl) (hk : ts[k]? = some t := by exact rfl) : LO P F ⟨d, .extract x k, ty, pos, aft, g⟩ ρ hp K := lo_extract hx hk h
theorem zEA {x : Operand} {ts : List AV} {k : Nat} {t : AV} (h : K t hp) (hx : ρ x = .tup ts := by exact rfl) (hk : ts[k]? = some t := by exact rfl) : LO P F ⟨d, .extract x k, ty, pos, aft, g⟩ ρ hp K := lo_extractA hx hk h
theorem zAl {t : TypeId} {ti : TI} {cs : List AV} {n : Nat} {hp' : Nat → List Blk} (h : ∀ b, K (.ptr n b 0) (hp' b)) (hL : TabOk P L := by exact tok) (ht : L.look t = some ti := by exact rfl) (hz : evl (ti.zero.map fun v => AV.c (.lit v)) = some cs := by exact rfl) (hn : lenU hp = some n := by exact rfl) (hf : ∀ b, evl (hp ++ [.box b t cs]) = some (hp' b) := by exact fun _ => rfl) : LO P F ⟨d, .alloc t, ty, pos, aft, g⟩ ρ hp K := v_alloc hL ht hz hn hf h
theorem zBx {t : TypeId} {x : Operand} {v : AV} {cs : List AV} {n : Nat} {hp' : Nat → List Blk} (h : ∀ b, K (.ptr n b 0) (hp' b)) (hv : fc (ρ x) = some v := by exact rfl) (hc : evl (cellsA v) = some cs := by exact rfl) (h1 : allOne cs = true := by first | exact rfl | assumption) (hn : lenU hp = some n := by exact rfl) (hf : ∀ b, evl (hp ++ [.box b t cs]) = some (hp' b) := by exact fun _ => rfl) : LO P F ⟨d, .box t x, ty, pos, aft, g⟩ ρ hp K := v_box (fc_eq hv) hc h1 hn hf h
theorem zS {t : TypeId} {ti : TI} {x y : Operand} {i b off : Nat} {tb : TypeId} {cs vs cs' : List AV} {v : AV} {hp' : List Blk} (h : K (.c (.lit undef)) hp') (hL : TabOk P L := by exact tok) (hx : ρ x = .ptr i b off := by exact rfl) (hi : hp[i]? = some (.box b tb cs) := by exact rfl) (hv : fc (ρ y) = some v := by exact rfl) (ht : L.look t = some ti := by exact rfl) (hc : evl (cellsA v) = some vs := by exact rfl) (h1 : allOne vs = true := by first | exact rfl | assumption) (hl : lenU vs = some ti.size := by exact rfl) (hb : Nat.ble (off + ti.size) cs.length = true := by exact rfl) (hs : evl (spl cs off vs) = some cs' := by exact rfl) (hf : evl (hp.set i (.box b tb cs')) = some hp' := by exact rfl) :
    LO P F ⟨d, .store t x y, ty, pos, aft, g⟩ ρ hp K := v_store hL hx hi (fc_eq hv) ht hc h1 hl hb hs hf h
theorem zL1 {t : TypeId} {ti : TI} {x : Operand} {i b off : Nat} {tb : TypeId} {cs : List AV} {v : AV} (h : K v hp) (hL : TabOk P L := by exact tok) (hx : ρ x = .ptr i b off := by exact rfl) (hi : hp[i]? = some (.box b tb cs) := by exact rfl) (ht : L.look t = some ti := by exact rfl) (ha : ti.agg = false := by exact rfl) (hv : cs[off]? = some v := by exact rfl) : LO P F ⟨d, .load t x, ty, pos, aft, g⟩ ρ hp K := lo_load_box1 hL hx hi ht ha hv h
theorem zL2 {t : TypeId} {ti : TI} {x : Operand} {i b off : Nat} {tb : TypeId} {cs l : List AV} (h : K (.agg l) hp) (hL : TabOk P L := by exact tok) (hx : ρ x = .ptr i b off := by exact rfl) (hi : hp[i]? = some (.box b tb cs) := by exact rfl) (ht : L.look t = some ti := by exact rfl) (ha : ti.agg = true := by exact rfl) (hl : Nat.ble (off + ti.size) cs.length = true := by exact rfl) (he : evl ((cs.drop off).take ti.size) = some l := by exact rfl) : LO P F ⟨d, .load t x, ty, pos, aft, g⟩ ρ hp K := v_load_box hL hx hi ht ha hl he h
theorem zL3 {t : TypeId} {ti : TI} {x : Operand} {off : Nat} {cs : List T} {v : T} (h : K (.c v) hp) (hL : TabOk P L := by exact tok) (hx : ρ x = .c (.pin cs off) := by exact rfl) (ht : L.look t = some ti := by exact rfl) (ha : ti.agg = false := by exact rfl) (hv : cs[off]? = some v := by exact rfl) : LO P F ⟨d, .load t x, ty, pos, aft, g⟩ ρ hp K := lo_load_pin1 hL hx ht ha hv h
/-- the element of a row that came in; what it is must be told -/
theorem zEl {t : TypeId} {ti : TI} {x : Operand} {off : Nat} {cs ts : List T} (hts : (cs.drop off).take ti.size = ts) (hl : ts.length = ti.size) (h : K (.c (.agg ts)) hp) (hL : TabOk P L := by exact tok) (hx : ρ x = .c (.pin cs off) := by exact rfl) (ht : L.look t = some ti := by exact rfl) (ha : ti.agg = true := by exact rfl) : LO P F ⟨d, .load t x, ty, pos, aft, g⟩ ρ hp K := lo_load_pin hL hx ht ha hts hl h
theorem zLp {t : TypeId} {ti : TI} {x : Operand} {off : Nat} {cs ts : List T} (h : K (.c (.agg ts)) hp) (hL : TabOk P L := by exact tok) (hx : ρ x = .c (.pin cs off) := by exact rfl) (ht : L.look t = some ti := by exact rfl) (ha : ti.agg = true := by exact rfl) (hts : evl ((cs.drop off).take ti.size) = some ts := by exact rfl) (hl : lenU ts = some ti.size := by exact rfl) : LO P F ⟨d, .load t x, ty, pos, aft, g⟩ ρ hp K := lo_load_pin hL hx ht ha (evl_eq hts).symm (lenU_eq hl).symm h
theorem zEl1 {t : TypeId} {ti : TI} {x : Operand} {off : Nat} {cs : List T} {v : T} (hv : cs[off]? = some v) (h : K (.c v) hp) (hL : TabOk P L := by exact tok) (hx : ρ x = .c (.pin cs off) := by exact rfl) (ht : L.look t = some ti := by exact rfl) (ha : ti.agg = false := by exact rfl) : LO P F ⟨d, .load t x, ty, pos, aft, g⟩ ρ hp K := lo_load_pin1 hL hx ht ha hv h
theorem zIx {t el : TypeId} {ti te : TI} {x y : Operand} {n sz : Nat} {cs : List T} {k : IntKind} {z : Int} (j : Nat) (hj : j < n) (h : K (.c (.pin cs (j * sz))) hp) (hL : TabOk P L := by exact tok) (hx : ρ x = .c (.row n sz cs) := by exact rfl) (hy : ρ y = .c (.lit (.int k z)) := by exact rfl) (hz : z = (j : Int) := by exact rfl) (ht : L.look t = some ti := by exact rfl) (hd : ti.d = .slice el := by exact rfl) (hte : L.look el = some te := by exact rfl) (hsz : te.size = sz := by exact rfl) : LO P F ⟨d, .indexAddr t x y, ty, pos, aft, g⟩ ρ hp K := lo_idx hL j hx hy hz hj ht hd hte hsz h
theorem zIxo {t el : TypeId} {ti te : TI} {x y : Operand} {i n sz : Nat} {v : Value} {e' : TypeId} {cs : List T} {k : IntKind} {z : Int} (j : Nat) (hj : j < n) (h : K (.eptr i v (j * sz)) hp) (hL : TabOk P L := by exact tok) (hx : ρ x = .own i v := by exact rfl) (hi : hp[i]? = some (.row v e' sz n cs) := by exact rfl) (hy : ρ y = .c (.lit (.int k z)) := by exact rfl) (hz : z = (j : Int) := by exact rfl) (ht : L.look t = some ti := by exact rfl) (hd : ti.d = .slice el := by exact rfl) (hte : L.look el = some te := by exact rfl) (hsz : te.size = sz := by exact rfl) : LO P F ⟨d, .indexAddr t x y, ty, pos, aft, g⟩ ρ hp K := lo_idx_own hL j hx hi hy hz hj ht hd hte hsz h
theorem zElo {t : TypeId} {ti : TI} {x : Operand} {i off n sz : Nat} {v : Value} {e' : TypeId} {cs ts : List T} (hts : (cs.drop off).take ti.size = ts) (hl : ts.length = ti.size) (h : K (.c (.agg ts)) hp) (hL : TabOk P L := by exact tok) (hx : ρ x = .eptr i v off := by exact rfl) (hi : hp[i]? = some (.row v e' sz n cs) := by exact rfl) (ht : L.look t = some ti := by exact rfl) (ha : ti.agg = true := by exact rfl) : LO P F ⟨d, .load t x, ty, pos, aft, g⟩ ρ hp K := lo_load_e hL hx hi ht ha hts hl h
theorem zF1 {s : TypeId} {ti : TI} {fs : List (Nat × Nat)} {k o sz : Nat} {x : Operand} {i b off : Nat} (h : K (.ptr i b (off + o)) hp) (hL : TabOk P L := by exact tok) (hx : ρ x = .ptr i b off := by exact rfl) (ht : L.look s = some ti := by exact rfl) (hd : ti.d = .struct fs := by exact rfl) (hk : fs[k]? = some (o, sz) := by exact rfl) (h0 : Nat.beq sz 0 = false := by exact rfl) : LO P F ⟨d, .fieldAddr s x k, ty, pos, aft, g⟩ ρ hp K := lo_fld hL hx ht hd hk h0 h
theorem zF2 {s : TypeId} {ti : TI} {fs : List (Nat × Nat)} {k o sz : Nat} {x : Operand} {cs : List T} {off : Nat} (h : K (.c (.pin cs (off + o))) hp) (hL : TabOk P L := by exact tok) (hx : ρ x = .c (.pin cs off) := by exact rfl) (ht : L.look s = some ti := by exact rfl) (hd : ti.d = .struct fs := by exact rfl) (hk : fs[k]? = some (o, sz) := by exact rfl) (h0 : Nat.beq sz 0 = false := by exact rfl) : LO P F ⟨d, .fieldAddr s x k, ty, pos, aft, g⟩ ρ hp K := lo_fld_pin hL hx ht hd hk h0 h
theorem zF3 {s : TypeId} {ti : TI} {fs : List (Nat × Nat)} {k o sz : Nat} {x : Operand} {i : Nat} {v : Value} {off : Nat} (h : K (.eptr i v (off + o)) hp) (hL : TabOk P L := by exact tok) (hx : ρ x = .eptr i v off := by exact rfl) (ht : L.look s = some ti := by exact rfl) (hd : ti.d = .struct fs := by exact rfl) (hk : fs[k]? = some (o, sz) := by exact rfl) (h0 : Nat.beq sz 0 = false := by exact rfl) : LO P F ⟨d, .fieldAddr s x k, ty, pos, aft, g⟩ ρ hp K := lo_fld_e hL hx ht hd hk h0 h
theorem zN1 {t el : TypeId} {ti : TI} {x : Operand} {n sz : Nat} {cs : List T} (h : n ≤ 9223372036854775807 → K (.c (.lit (.int .i64 n))) hp) (hL : TabOk P L := by exact tok) (hx : ρ x = .c (.row n sz cs) := by exact rfl) (ht : L.look t = some ti := by exact rfl) (hd : ti.d = .slice el := by exact rfl) : LO P F ⟨d, .call { callee := .builtin .len, args := #[x], argTypes := #[t] }, ty, pos, aft, g⟩ ρ hp K := lo_len hL hx ht hd h
theorem zN2 {t el : TypeId} {ti : TI} {x : Operand} {i n sz : Nat} {v : Value} {e' : TypeId} {cs : List T} (h : n ≤ 9223372036854775807 → K (.c (.lit (.int .i64 n))) hp) (hL : TabOk P L := by exact tok) (hx : ρ x = .own i v := by exact rfl) (hi : hp[i]? = some (.row v e' sz n cs) := by exact rfl) (ht : L.look t = some ti := by exact rfl) (hd : ti.d = .slice el := by exact rfl) : LO P F ⟨d, .call { callee := .builtin .len, args := #[x], argTypes := #[t] }, ty, pos, aft, g⟩ ρ hp K := lo_len_own hL hx hi ht hd h
theorem zN3 {t : TypeId} {ti : TI} {x : Operand} {s : ByteArray} (h : K (.c (.lit (.int .i64 s.size))) hp) (hL : TabOk P L := by exact tok) (hx : ρ x = .c (.lit (.string s)) := by exact rfl) (ht : L.look t = some ti := by exact rfl) (hd : ti.d = .string := by exact rfl) : LO P F ⟨d, .call { callee := .builtin .len, args := #[x], argTypes := #[t] }, ty, pos, aft, g⟩ ρ hp K := lo_len_str hL hx ht hd h
theorem zN4 {t el : TypeId} {ti : TI} {x : Operand} (h : K (.c (.lit (.int .i64 0))) hp) (hL : TabOk P L := by exact tok) (hx : ρ x = .c (.lit (.slice none 0 0)) := by exact rfl) (ht : L.look t = some ti := by exact rfl) (hd : ti.d = .slice el := by exact rfl) : LO P F ⟨d, .call { callee := .builtin .len, args := #[x], argTypes := #[t] }, ty, pos, aft, g⟩ ρ hp K := lo_len_nil hL hx ht hd h
theorem zAp {t el : TypeId} {ti te : TI} {x y : Operand} {i n m sz : Nat} {v : Value} {cs ts : List T} {hp' : Value → List Blk} (h : ∀ v', K (.own i v') (hp' v')) (hL : TabOk P L := by exact tok) (hx : ρ x = .own i v := by exact rfl) (hi : hp[i]? = some (.row v el sz n cs) := by exact rfl) (hy : ρ y = .c (.row m sz ts) := by exact rfl) (ht : L.look t = some ti := by exact rfl) (hd : ti.d = .slice el := by exact rfl) (hte : L.look el = some te := by exact rfl) (hsz : te.size = sz := by exact rfl) (hf : ∀ v', evl (hp.set i (.row v' el sz (n + m) (cs ++ ts))) = some (hp' v') := by exact fun _ => rfl)
    (h63 : n + m ≤ maxLen := by first | (simp only [maxLen]; omega) | (simp only [maxLen]; dsimp only at *; omega)) (hbytes : (n + m) * te.bytes ≤ 140737488355328 := by first | (simp only []; omega) | (dsimp only at *; omega)) : LO P F ⟨d, .call { callee := .builtin .append, args := #[x, y], argTypes := #[t, t] }, ty, pos, aft, g⟩ ρ hp K := v_app hL hx hi hy ht hd hte hsz hf h63 hbytes h
theorem zBd {t : TypeId} {ti : TI} {fs : List (Nat × Nat)} {parts : List (Nat × Operand)} {cs cs' : List AV} (h : K (.agg cs') hp) (hL : TabOk P L := by exact tok) (ht : L.look t = some ti := by exact rfl) (hd : ti.d = .struct fs := by exact rfl) (hf : fillA (fun i => fs[i]?) (ti.zero.map fun v => .c (.lit v)) (parts.map fun p => (p.1, ρ p.2)) = some cs := by exact rfl) (he : evl cs = some cs' := by exact rfl) : LO P F ⟨d, .build t parts.toArray, ty, pos, aft, g⟩ ρ hp K := v_build hL ht hd hf he h
theorem zBs {t el : TypeId} {ti te : TI} {n : Nat} {parts : List (Nat × Operand)} {cs cs' : List AV} {ts : List T} (h : K (.c (.row n te.size ts)) hp) (hL : TabOk P L := by exact tok) (ht : L.look t = some ti := by exact rfl) (hd : ti.d = .slice el := by exact rfl) (hte : L.look el = some te := by exact rfl) (h0 : Nat.ble 1 te.size = true := by exact rfl) (hn : Nat.ble (n * te.size) 16777216 = true := by exact rfl)
    (hf : fillA (fun i => some (i * te.size, te.size)) ((List.range (n * te.size)).map fun j => .c (.lit (te.zero.getD (j % te.size) undef))) (parts.map fun p => (p.1, ρ p.2)) = some cs := by exact rfl) (he : evl cs = some cs' := by exact rfl) (hz : Rzs [] cs' ts := by repeat (first | exact rzs_nil | apply rzs_cons | exact rz_c | exact rz_nil rfl | apply rz_agg | exact rz_own rfl | apply rz_fn | exact rz_ptr rfl | apply rz_tup)) : LO P F ⟨d, .buildSlice t n parts.toArray, ty, pos, aft, g⟩ ρ hp K := v_bslice hL ht hd hte h0 hn hf he hz h
theorem zFn {f : Fn} {cap : List Operand} {l : List AV} (h : K (.fn f l) hp) (he : evl (cap.map ρ) = some l := by exact rfl) : LO P F ⟨d, .makeFunc f #[] cap.toArray, ty, pos, aft, g⟩ ρ hp K := v_func he h
theorem zCall {f : FuncId} {y : Operand} {xs : List Operand} {ats : Array TypeId} {ts : List T} {R : T → Prop} {cap : List AV} (hc : AF P f ts R) (h : ∀ r, R r → K (.c r) hp) (hy : ρ y = .fn (.func f) cap := by exact rfl) (hx : Rzs [] (xs.map ρ ++ cap) ts := by repeat (first | exact rzs_nil | apply rzs_cons | exact rz_c | exact rz_nil rfl | apply rz_agg | exact rz_own rfl | apply rz_fn | exact rz_ptr rfl | apply rz_tup)) : LO P F ⟨d, .call { callee := .value y, args := xs.toArray, argTypes := ats }, ty, pos, aft, g⟩ ρ hp K := lo_call hc hy hx h
theorem zCallc {f : FuncId} {y : Operand} {xs : List Operand} {ats : Array TypeId} {ts cap : List T} {R : T → Prop} (hc : AF P f ts R) (h : ∀ r, R r → K (.c r) hp) (hy : ρ y = .c (.fn (.func f) cap) := by exact rfl) (hx : Rzs [] (xs.map ρ ++ cap.map .c) ts := by first | exact rzs_cons rz_c rzs_self | repeat (first | exact rzs_nil | apply rzs_cons | exact rz_c | exact rz_nil rfl | apply rz_agg | exact rz_own rfl | apply rz_fn | exact rz_ptr rfl | apply rz_tup)) : LO P F ⟨d, .call { callee := .value y, args := xs.toArray, argTypes := ats }, ty, pos, aft, g⟩ ρ hp K := v_callc hc hy hx h
theorem zPeek {f : FuncId} {y : Operand} {xs : List Operand} {ats : Array TypeId} {ts : List T} {R : T → Prop} {cap : List AV} (hc : AF P f ts R) (h : ∀ r, R r → flatT r = true ∧ K (.c r) hp) (hy : ρ y = .fn (.func f) cap := by exact rfl) (hx : Rz2s hp (xs.map ρ ++ cap) ts := by repeat (first | exact rz2s_nil | apply rz2s_cons | apply rz2_fn | (apply rz2_ptr; (focus exact rfl)) | apply rz2_c | apply rz2_own | apply rz2_agg | exact rzs_nil | apply rzs_cons | exact rz_c | exact rz_nil rfl | apply rz_agg | exact rz_own rfl | apply rz_fn | exact rz_ptr rfl | apply rz_tup)) : LO P F ⟨d, .call { callee := .value y, args := xs.toArray, argTypes := ats }, ty, pos, aft, g⟩ ρ hp K := v_peek hc hy hx h
variable {t t' : TypeId} {x y : Operand} {k : IntKind} {a b : Int} {s s' : ByteArray}
theorem zInc {n : Nat} (h : K (.c (.lit (.int .i64 ((n + 1 : Nat) : Int)))) hp) (hx : ρ x = .c (.lit (.int .i64 n)) := by exact rfl) (hy : ρ y = .c (.lit (.int .i64 1)) := by exact rfl) (hb : n < 9223372036854775807 := by first | omega | (dsimp only at *; omega)) : LO P F ⟨d, .binOp .add t x y t', ty, pos, aft, g⟩ ρ hp K := lo_inc hx hy hb h
theorem zNot {c : Bool} (h : K (.c (.lit (.bool !c))) hp) (hx : ρ x = .c (.lit (.bool c)) := by exact rfl) : LO P F ⟨d, .unOp .not t x, ty, pos, aft, g⟩ ρ hp K := lo_not hx h
theorem zC1 (h : K (.c (.lit (.bool (decide (a < b))))) hp) (hx : ρ x = .c (.lit (.int k a)) := by exact rfl) (hy : ρ y = .c (.lit (.int k b)) := by exact rfl) : LO P F ⟨d, .binOp .lss t x y t', ty, pos, aft, g⟩ ρ hp K := lo_lss hx hy h
theorem zC2 (h : K (.c (.lit (.bool (decide (a ≤ b))))) hp) (hx : ρ x = .c (.lit (.int k a)) := by exact rfl) (hy : ρ y = .c (.lit (.int k b)) := by exact rfl) : LO P F ⟨d, .binOp .leq t x y t', ty, pos, aft, g⟩ ρ hp K := lo_leq hx hy h
theorem zC3 (h : K (.c (.lit (.bool (decide (b < a))))) hp) (hx : ρ x = .c (.lit (.int k a)) := by exact rfl) (hy : ρ y = .c (.lit (.int k b)) := by exact rfl) : LO P F ⟨d, .binOp .gtr t x y t', ty, pos, aft, g⟩ ρ hp K := lo_gtr hx hy h
theorem zC4 (h : K (.c (.lit (.bool (decide (b ≤ a))))) hp) (hx : ρ x = .c (.lit (.int k a)) := by exact rfl) (hy : ρ y = .c (.lit (.int k b)) := by exact rfl) : LO P F ⟨d, .binOp .geq t x y t', ty, pos, aft, g⟩ ρ hp K := lo_geq hx hy h
theorem zC5 (h : K (.c (.lit (.bool (decide (a = b))))) hp) (hx : ρ x = .c (.lit (.int k a)) := by exact rfl) (hy : ρ y = .c (.lit (.int k b)) := by exact rfl) : LO P F ⟨d, .binOp .eql t x y t', ty, pos, aft, g⟩ ρ hp K := lo_eql hx hy h
theorem zC6 (h : K (.c (.lit (.bool (!decide (a = b))))) hp) (hx : ρ x = .c (.lit (.int k a)) := by exact rfl) (hy : ρ y = .c (.lit (.int k b)) := by exact rfl) : LO P F ⟨d, .binOp .neq t x y t', ty, pos, aft, g⟩ ρ hp K := lo_neq hx hy h
theorem zS1 (h : K (.c (.lit (.bool (strLt s s')))) hp) (hx : ρ x = .c (.lit (.string s)) := by exact rfl) (hy : ρ y = .c (.lit (.string s')) := by exact rfl) : LO P F ⟨d, .binOp .lss t x y t', ty, pos, aft, g⟩ ρ hp K := lo_lts hx hy h
theorem zS2 (h : K (.c (.lit (.bool (strLt s s' || decide (s = s'))))) hp) (hx : ρ x = .c (.lit (.string s)) := by exact rfl) (hy : ρ y = .c (.lit (.string s')) := by exact rfl) : LO P F ⟨d, .binOp .leq t x y t', ty, pos, aft, g⟩ ρ hp K := lo_les hx hy h
theorem zS3 (h : K (.c (.lit (.bool (!(strLt s s' || decide (s = s')))))) hp) (hx : ρ x = .c (.lit (.string s)) := by exact rfl) (hy : ρ y = .c (.lit (.string s')) := by exact rfl) : LO P F ⟨d, .binOp .gtr t x y t', ty, pos, aft, g⟩ ρ hp K := lo_gts hx hy h
theorem zS4 (h : K (.c (.lit (.bool (!strLt s s')))) hp) (hx : ρ x = .c (.lit (.string s)) := by exact rfl) (hy : ρ y = .c (.lit (.string s')) := by exact rfl) : LO P F ⟨d, .binOp .geq t x y t', ty, pos, aft, g⟩ ρ hp K := lo_ges hx hy h
theorem zS5 (h : K (.c (.lit (.bool (decide (s = s'))))) hp) (hx : ρ x = .c (.lit (.string s)) := by exact rfl) (hy : ρ y = .c (.lit (.string s')) := by exact rfl) : LO P F ⟨d, .binOp .eql t x y t', ty, pos, aft, g⟩ ρ hp K := lo_eqs hx hy h
theorem zS6 (h : K (.c (.lit (.bool (!decide (s = s'))))) hp) (hx : ρ x = .c (.lit (.string s)) := by exact rfl) (hy : ρ y = .c (.lit (.string s')) := by exact rfl) : LO P F ⟨d, .binOp .neq t x y t', ty, pos, aft, g⟩ ρ hp K := lo_nes hx hy h
end
section
variable {L : Tab} {σ : AS} {res : List ResultVar} {R : T → Prop} {ts : List T}
theorem zR (hR : R (outT ts)) (h : Outs L σ res ts := by repeat (first | exact outs_nil | apply outs_cons | (apply out_tmp (v := .c _); (focus exact rfl)) | (apply out_tmp (v := .own _ _); (focus exact rfl)) | (apply out_tmp (v := .agg _); (focus exact rfl)) | (apply out_tmp (v := .ptr _ _ _); (focus exact rfl)) | (apply out_tmp (v := .fn _ _); (focus exact rfl)) | (apply out_agg; (focus exact rfl); (focus exact rfl); (focus exact rfl); (focus exact rfl); (focus exact rfl); (focus exact rfl)) | (apply out_one; (focus exact rfl); (focus exact rfl); (focus exact rfl); (focus exact rfl); (focus exact rfl)) | exact rzs_nil | apply rzs_cons | exact rz_c | exact rz_nil rfl | apply rz_agg | exact rz_own rfl | apply rz_fn | exact rz_ptr rfl | apply rz_tup)) : Fin L res R .ret σ := fin_r h hR
theorem zQ (hR : R (outT ts)) (h : Outs L σ res ts := by repeat (first | exact outs_nil | apply outs_cons | (apply out_tmp (v := .c _); (focus exact rfl)) | (apply out_tmp (v := .own _ _); (focus exact rfl)) | (apply out_tmp (v := .agg _); (focus exact rfl)) | (apply out_tmp (v := .ptr _ _ _); (focus exact rfl)) | (apply out_tmp (v := .fn _ _); (focus exact rfl)) | (apply out_agg; (focus exact rfl); (focus exact rfl); (focus exact rfl); (focus exact rfl); (focus exact rfl); (focus exact rfl)) | (apply out_one; (focus exact rfl); (focus exact rfl); (focus exact rfl); (focus exact rfl); (focus exact rfl)) | exact rzs_nil | apply rzs_cons | exact rz_c | exact rz_nil rfl | apply rz_agg | exact rz_own rfl | apply rz_fn | exact rz_ptr rfl | apply rz_tup)) : Fin L res R .normal σ := fin_n h hR
end
end Go.Proofs.YtbfomgchjlkopaaDoor
namespace Go.Proofs.YtbfomgchjlkopaaDoor
open Go.RowKit
section
variable {P : Program} {F : Frm} {L : Tab} {d : Option Tmp} {ty : TypeId} {pos : String} {aft : Array Edge} {g : Option (Nat × Bool)} {ρ : Operand → AV} {hp : List Blk} {K : AV → List Blk → Prop}
theorem RTs.set {M : Mm} : ∀ {ts : List T} {xs : List Value} (k : Nat) {t : T} {x : Value}, RTs M ts xs → RT M t x → RTs M (ts.set k t) (xs.set k x)
  | [], _, _, _, _, h, _ => by simp only [RTs] at h; subst h; simp [RTs]
  | a :: ts, _, 0, _, _, h, ht => by
    simp only [RTs] at h
    obtain ⟨x, r, rfl, h1, h2⟩ := h
    simp only [List.set_cons_zero, RTs]
    exact ⟨_, _, rfl, ht, h2⟩
  | a :: ts, _, k + 1, _, _, h, ht => by
    simp only [RTs] at h
    obtain ⟨x, r, rfl, h1, h2⟩ := h
    simp only [List.set_cons_succ, RTs]
    exact ⟨_, _, rfl, h1, RTs.set k h2 ht⟩
theorem RTs.spl {M : Mm} : ∀ {vs cs : List T} {us xs : List Value} {k : Nat}, RTs M cs xs → RTs M vs us → RTs M (spl cs k vs) (Go.Proofs.YtbfomgchjlkopaaDoor.spl xs k us)
  | [], _, _, _, _, h, h' => by simp only [RTs] at h'; subst h'; exact h
  | v :: vs, cs, _, xs, k, h, h' => by
    simp only [RTs] at h'
    obtain ⟨x, r, rfl, h1, h2⟩ := h'
    exact RTs.spl (vs := vs) (cs := cs.set k v) (us := r) (xs := xs.set k x) (k := k + 1) (RTs.set k h h1) h2
theorem take_spl {α : Type} (c u : List α) (off k : Nat) (h : off + u.length ≤ k) (hk : k ≤ c.length) : (c.take off ++ u ++ c.drop (off + u.length)).take k = (c.take k).take off ++ u ++ (c.take k).drop (off + u.length) := by
  apply List.ext_getElem?
  intro i
  simp only [List.getElem?_take, List.getElem?_append, List.length_append, List.length_take, List.getElem?_drop, Nat.min_eq_left (show off ≤ c.length by omega), Nat.min_eq_left hk, Nat.min_eq_left (show off ≤ k by omega)]
  by_cases h1 : i < off
  · have : i < off + u.length := by omega
    simp [h1, this]
  · by_cases h2 : i < off + u.length
    · have : i < k := by omega
      simp [h1, h2, this]
    · have h3 : off + u.length + (i - (off + u.length)) = i := by omega
      simp [h2, h3]
theorem drop_spl {α : Type} (c u : List α) (o off : Nat) (h : o + off + u.length ≤ c.length) : (c.take (o + off) ++ u ++ c.drop (o + off + u.length)).drop o = (c.drop o).take off ++ u ++ (c.drop o).drop (off + u.length) := by
  rw [List.append_assoc, List.drop_append_of_le_length (by rw [List.length_take]; omega), List.drop_take, List.drop_drop, ← List.append_assoc, Nat.add_sub_cancel_left, Nat.add_assoc]
/-- a store into an element of a row of the call's own -/
theorem lo_store_e (hL : TabOk P L) {t : TypeId} {ti : TI} {x y : Operand} {i off n sz : Nat} {v : Value} {e' : TypeId} {cs us : List T} {u : AV} (hx : ρ x = .eptr i v off) (hi : hp[i]? = some (.row v e' sz n cs)) (hy : ρ y = u) (ht : L.look t = some ti) (h1 : allOne (cellsA u) = true) (hl : (cellsA u).length = ti.size) (hz : Rzs [] (cellsA u) us) (hb : off + ti.size ≤ cs.length)
    (h : K (.c (.lit undef)) (hp.set i (.row v e' sz n (spl cs off us)))) : LO P F ⟨d, .store t x y, ty, pos, aft, g⟩ ρ hp K := by
  refine ⟨fun M e w he hh => ?_⟩
  have hax := he x (by simp [Op.operands])
  rw [hx] at hax
  simp only [RA] at hax
  obtain ⟨ad, m, c, rfl, hax⟩ := hax
  have hvy := he y (by simp [Op.operands])
  rw [hy] at hvy
  obtain ⟨hc, ho⟩ := cells_of hvy h1
  have hct := cls_sound _ _ _ hz hc
  obtain ⟨xs, how, hxs, hone, hsz⟩ := hh.at_ i _ hi
  have hlen := hxs.len
  have hcl := hc.len
  have hcs : (e y).cells.size = ti.size := by rw [← hl, ← hcl]; simp
  rcases how.2 with ⟨h0, _⟩ | ⟨g', o', cap, cur, hv, hg, hnc, hcm, hcur, htk⟩
  · cases h0
  · have hA : ad = ⟨g', o', none⟩ := by injection hv with h; injection h
    have hmn : m = n := by injection hv
    have hcc : c = cap := by injection hv
    subst hA; subst hmn; subst hcc
    have hxl := how.1
    have hoff : off + (e y).cells.toList.length ≤ xs.length := by rw [hlen]; simp [hcs]; omega
    have hcl2 : o' + xs.length ≤ cur.size := by rw [hxl]; have := Nat.mul_le_mul_right sz hnc; omega
    have hst := run_storeCells_at (P := P) g' (o' + off) e' (e y).cells.toList 0 cur w hg (by simp at hoff ⊢; omega) ho
    have hrun : (execOp e ⟨d, .store t x y, ty, pos, aft, g⟩).run P w = .ok .skip (w.setRow g' (spl cur.toList (o' + off) (e y).cells.toList).toArray) := by
      rw [spl_eq _ _ _ (by simp at hoff ⊢; omega)]
      have hadd : (⟨g', o', none⟩ : Addr).add off = ⟨g', o' + off, none⟩ := by rw [box_add]
      simp [execOp, Instr.storeAt, hax, hadd, Instr.sureAddr, storeVar, hL.sizeOf ht, hcs] at hst ⊢
      simp [hst]
    rw [hrun]
    refine ⟨M, _, _, h, Ext.refl _ _, ?_, by simp only [RA, RT]⟩
    have hblk := setRow_heap w g' cur (spl cur.toList (o' + off) (e y).cells.toList).toArray e' _ hg
    refine hh.step i rfl rfl rfl (by simp [World.setRow]) (fun k hk hne => ?_) (Ext.refl _ _) (fun p v h1 h2 => by rw [h2] at h1; cases h1) (fun j hj => by rw [List.getElem?_set_ne (Ne.symm hj)]) (fun x' hx' => ?_)
    · have : k ≠ g' := fun e => hne _ hi (by rw [e]; rfl)
      simp [World.setRow, Array.getElem?_modify, Ne.symm this]
    · have hlt : i < hp.length := (List.getElem?_eq_some_iff.1 hi).1
      rw [List.getElem?_set_self hlt] at hx'
      obtain rfl : Blk.row (.slice (some ⟨g', o', none⟩) m c) e' sz m (spl cs off us) = x' := by injection hx'
      refine ⟨⟨spl xs off (e y).cells.toList, ⟨by rw [spl_len]; exact hxl, .inr ⟨g', o', c, (spl cur.toList (o' + off) (e y).cells.toList).toArray, rfl, hblk, hnc, hcm, by simpa [spl_len] using hcur, ?_⟩⟩, RTs.spl hxs hct, spl_one hone ho, hsz⟩, fun b' hb' => .inl ⟨_, hi, hb'⟩⟩
      simp only
      rw [spl_eq _ _ _ (by simp at hoff ⊢; omega), spl_eq _ _ _ hoff, ← htk]
      have hk : off + (e y).cells.toList.length ≤ m * sz := by rw [← hxl]; exact hoff
      have hcl3 : o' + m * sz ≤ cur.toList.length := by rw [hxl] at hcl2; simpa using hcl2
      rw [drop_spl cur.toList (e y).cells.toList o' off (by omega)]
      exact take_spl (cur.toList.drop o') (e y).cells.toList off (m * sz) hk (by rw [List.length_drop]; omega)
end
section
variable {P : Program} {F : Frm} {L : Tab}
def OutA (L : Tab) (σ : AS) : ResultVar → AV → Prop
  | .tmp i, v => σ.tmps i = v
  | .cell a ty, v => ∃ i b off tb cs ti, σ.tmps a = .ptr i b off ∧ σ.hp[i]? = some (.box b tb cs) ∧ L.look ty = some ti ∧
      (match ti.agg with | true => off + ti.size ≤ cs.length ∧ v = .agg ((cs.drop off).take ti.size) | false => cs[off]? = some v)
def OutsA (L : Tab) (σ : AS) : List ResultVar → List AV → Prop
  | [], vs => vs = []
  | r :: rs, vs => ∃ v vs', vs = v :: vs' ∧ OutA L σ r v ∧ OutsA L σ rs vs'
def outA : List AV → AV
  | [v] => v
  | vs => .tup vs
theorem outA_sound {M : Mm} {σ : AS} {a : Act} {w : World} (hL : TabOk P L) (hr : Rep F M σ a w) {r : ResultVar} {v : AV} (ho : OutA L σ r v) :
    ∃ u, ((match r with | .tmp t => pure (a.tmps.getD t undef) | .cell a' t => do loadVar t (← asAddr (a.tmps.getD a' undef))) : Sem Value).run P w = .ok u w ∧ RA M v u := by
  cases r with
  | tmp i => exact ⟨_, rfl, by rw [← (show σ.tmps i = v from ho)]; exact hr.tmps i⟩
  | cell x ty =>
    obtain ⟨i, b, off, tb, cs, ti, h1, h2, h3, h4⟩ := ho
    have hv := hr.tmps x
    rw [h1] at hv
    simp only [RA] at hv
    simp only [hv, asAddr, Sem.run_bind, Sem.run_pure, Result.andThen_ok]
    cases hag : ti.agg with
    | true =>
      rw [hag] at h4
      obtain ⟨u, hu, hra⟩ := load_box hL hr.heap h2 h3 hag h4.1
      exact ⟨u, hu, by rw [h4.2]; exact hra⟩
    | false =>
      rw [hag] at h4
      exact load_box1 hL hr.heap h2 h3 hag h4
theorem outsA_sound {M : Mm} {σ : AS} {a : Act} {w : World} (hL : TabOk P L) (hr : Rep F M σ a w) : ∀ {rs : List ResultVar} {vs : List AV}, OutsA L σ rs vs →
    ∃ us, (rs.mapM fun r => ((match r with | .tmp t => pure (a.tmps.getD t undef) | .cell a' t => do loadVar t (← asAddr (a.tmps.getD a' undef))) : Sem Value)).run P w = .ok us w ∧ RAs M vs us
  | [], vs, ho => by
    simp only [OutsA] at ho
    subst ho
    exact ⟨[], rfl, by simp only [RAs]⟩
  | r :: rs, vs, ho => by
    simp only [OutsA] at ho
    obtain ⟨v, vs', rfl, h1, h2⟩ := ho
    obtain ⟨u, hu, hu'⟩ := outA_sound hL hr h1
    obtain ⟨us, hus, hus'⟩ := outsA_sound hL hr h2
    refine ⟨u :: us, ?_, by simp only [RAs]; exact ⟨u, us, rfl, hu', hus'⟩⟩
    simp only [List.mapM_cons, Sem.run_bind, hu, Result.andThen_ok, hus, Sem.run_pure]
theorem resultsA_sound {M : Mm} {σ : AS} {a : Act} {w : World} (hL : TabOk P L) (hr : Rep F M σ a w) {fn : Func} {vs : List AV} (ho : OutsA L σ fn.results.toList vs) :
    ∃ u, (results fn a.tmps).run P w = .ok u w ∧ RA M (outA vs) u := by
  obtain ⟨us, hus, hr⟩ := outsA_sound hL hr ho
  have hlen := hr.len
  have hm : (fn.results.mapM fun r => ((match r with | .tmp t => pure (a.tmps.getD t undef) | .cell a' t => do loadVar t (← asAddr (a.tmps.getD a' undef))) : Sem Value)).run P w = .ok us.toArray w := by
    rw [Array.mapM_eq_mapM_toList]
    rw [Sem.run_map, hus]
    rfl
  refine ⟨if h : us.toArray.size = 1 then us.toArray[0] else .tuple us.toArray, ?_, ?_⟩
  · unfold results
    simp only [Sem.run_bind, Sem.run_pure]
    erw [hm]
    rfl
  · match vs, us, hlen, hr with
    | [], [], _, hr => simp only [outA, RA]; exact ⟨[], by simp, hr⟩
    | [t], [u], _, hr =>
      simp only [RAs] at hr
      obtain ⟨x, r, e, h1, _⟩ := hr
      injection e with e _
      subst e
      simpa [outA] using h1
    | t1 :: t2 :: ts, u1 :: u2 :: us, _, hr => simp only [outA, RA]; exact ⟨u1 :: u2 :: us, by simp, hr⟩
end
end Go.Proofs.YtbfomgchjlkopaaDoor
