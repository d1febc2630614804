/-
  Abstract states: a region that draws, where two operations that make memory may come in either order; blocks in another order.
-/
import Derived.Test.YthgackidonocpaaAb13
namespace Go.Proofs.Ythgackidonocpaa
open Go.RowKit

section
variable {P : Program} {F : Frm} {ops : Array Oper} {md : Region.Mode} {N : Nat} {cls : Nat → Nat}
def ordP (md : Region.Mode) (ops : Array Oper) (cls : Nat → Nat) : List Nat → Array Bool → Bool
  | [], _ => true
  | i :: r, listed => (if 2 ≤ cls i then decide (Region.ready md ops listed = [i]) else (Region.ready md ops listed).contains i && freeA md ops cls listed i) && ordP md ops cls r (listed.setIfInBounds i true)
def lst : List Nat → Array Bool → Array Bool
  | [], listed => listed
  | i :: r, listed => lst r (listed.setIfInBounds i true)
theorem ordP_closed : ∀ (r : List Nat) (listed : Array Bool), ClosedL md ops listed → ordP md ops cls r listed = true → ClosedL md ops (lst r listed)
  | [], _, h, _ => h
  | i :: r, listed, h, hB => by
    simp only [ordP, Bool.and_eq_true] at hB
    refine ordP_closed r _ (h.set ?_) hB.2
    have := hB.1
    split at this
    · rw [of_decide_eq_true this]; simp
    · simp only [Bool.and_eq_true] at this
      simpa using this.1
theorem anyA_pre {Kf : (Nat → AV) → List Blk → Prop} (n : Nat) : ∀ (r : List Nat) (listed : Array Bool) (τ : Nat → AV) (hp : List Blk), ClosedL md ops listed → ordP md ops cls r listed = true → WO P F ops N cls (fun τ hp => AnyA P F md ops N cls Kf n (lst r listed) τ hp) r τ hp → AnyA P F md ops N cls Kf (n + r.length) listed τ hp
  | [], listed, τ, hp, _, hB, h => h
  | i :: r, listed, τ, hp, hc, hB, h => by
    simp only [ordP, Bool.and_eq_true] at hB
    obtain ⟨hB1, hB2⟩ := hB
    simp only [List.length_cons, ← Nat.add_assoc]
    by_cases h2 : 2 ≤ cls i
    · rw [if_pos h2] at hB1
      have hr := of_decide_eq_true hB1
      refine ⟨fun h0 => (by rw [hr] at h0; cases h0), fun j hj => ?_⟩
      have : j = i := by rw [hr] at hj; simpa using hj
      subst this
      exact opA_mono (fun τ' hp' h' => anyA_pre n r _ τ' hp' (hc.set hj) hB2 h') h
    · rw [if_neg h2] at hB1
      simp only [Bool.and_eq_true] at hB1
      obtain ⟨hr, hf⟩ := hB1
      have hr' : i ∈ Region.ready md ops listed := by simpa using hr
      obtain ⟨_, oi, hoi, _⟩ := mem_ready.1 hr'
      have h' := h
      simp only [WO] at h'
      unfold opA at h'
      simp only [hoi] at h'
      rw [if_neg h2] at h'
      obtain ⟨v, hy, hk⟩ := h'
      refine anyA_first hoi (n + r.length) listed τ hp hc ?_ hr' hy h2 (anyA_pre n r _ _ _ (hc.set hr') hB2 hk)
      intro j oj hj hji hun hno
      unfold freeA at hf
      rw [hoi] at hf
      have := List.all_eq_true.1 hf j (List.mem_range.2 (Array.getElem?_eq_some_iff.1 hj).1)
      rw [hj] at this
      simp only [hun, hno, Bool.or_false, Bool.or_eq_true, beq_iff_eq, hji, false_or, Bool.and_eq_true, bne_iff_ne] at this
      exact ⟨this.1, fun e => by rcases this.2 with h | h; exact absurd e h; exact h⟩
theorem WO.mono {K K' : (Nat → AV) → List Blk → Prop} : ∀ (r : List Nat) {τ : Nat → AV} {hp : List Blk}, (∀ τ hp, K τ hp → K' τ hp) → WO P F ops N cls K r τ hp → WO P F ops N cls K' r τ hp
  | [], τ, hp, h, hw => h τ hp hw
  | _ :: r, _, _, h, hw => opA_mono (fun _ _ h' => WO.mono r h h') hw
theorem anyA_two {Kf : (Nat → AV) → List Blk → Prop} {i j : Nat} {r s : List Nat} {listed : Array Bool} {τ : Nat → AV} {hp : List Blk} (hc : ClosedL md ops listed) (hr : Region.ready md ops listed = [i, j]) (hl : r.length = s.length)
    (h1 : ordB md ops cls r (listed.setIfInBounds i true) = true) (h2 : ordB md ops cls s (listed.setIfInBounds j true) = true)
    (h : WO P F ops N cls Kf (i :: r) τ hp ∧ WO P F ops N cls Kf (j :: s) τ hp) : AnyA P F md ops N cls Kf (r.length + 1) listed τ hp := by
  refine ⟨fun h0 => (by rw [hr] at h0; cases h0), fun k hk => ?_⟩
  have hk' := hk
  rw [hr] at hk'
  simp only [List.mem_cons, List.not_mem_nil, or_false] at hk'
  rcases hk' with rfl | rfl
  · exact opA_mono (fun τ' hp' h' => anyA_ord r _ τ' hp' (hc.set hk) h1 h') h.1
  · rw [hl]; exact opA_mono (fun τ' hp' h' => anyA_ord s _ τ' hp' (hc.set hk) h2 h') h.2
end

section
variable {P : Program} {F : Frm} {τ : Nat → AV} {hp : List Blk} {N : Nat} {Q : Exit → AS → Prop} {id : Nat} {l : List Oper}
/-- after p, either i and then r, or j and then s -/
theorem ac_draw2 (c p : List Nat) (i : Nat) (r : List Nat) (j : Nat) (s : List Nat) (hm : P.follows .mixedOrders = true)
    (hB : (ordP .any l.toArray (clsOf c) p (Array.replicate l.toArray.size false) && decide (Region.ready .any l.toArray (lst p (Array.replicate l.toArray.size false)) = [i, j]) && ordB .any l.toArray (clsOf c) r ((lst p (Array.replicate l.toArray.size false)).setIfInBounds i true) &&
      ordB .any l.toArray (clsOf c) s ((lst p (Array.replicate l.toArray.size false)).setIfInBounds j true) && Nat.beq r.length s.length && Nat.beq (r.length + 1 + p.length) l.length) = true)
    (h : WO P F l.toArray N (clsOf c) (fun τ' hp' => WO P F l.toArray N (clsOf c) (fun τ' hp' => Q .normal ⟨τ', hp', N⟩) (i :: r) τ' hp' ∧ WO P F l.toArray N (clsOf c) (fun τ' hp' => Q .normal ⟨τ', hp', N⟩) (j :: s) τ' hp') p τ hp) : AC P F (.region id l.toArray true) Q ⟨τ, hp, N⟩ := by
  refine ⟨fun M a w hr => ?_⟩
  simp only [Bool.and_eq_true] at hB
  obtain ⟨⟨⟨⟨⟨b1, b2⟩, b3⟩, b4⟩, b5⟩, b6⟩ := hB
  have hlen := Nat.eq_of_beq_eq_true b6
  have hrd : Rep F M ⟨τ, hp, N⟩ a { w with drawn := w.drawn + 1 } := ⟨hr.tmps, hr.size, hr.defers, hr.heap.drew⟩
  have hcl : ClosedL .any l.toArray (Array.replicate l.toArray.size false) := fun j oj _ hl => by rw [getD_replicate_false] at hl; cases hl
  have hcl' := ordP_closed p _ hcl b1
  refine wp_region_any hm ?_
  have H := wpAny_of_A (Q := fun e a' w' => ∃ M' σ', Q e σ' ∧ Rep F M' σ' a' w') (fun M τ hp a w hk hr => ⟨M, _, hk, hr⟩) _ _ _ _ _ _ _ hrd
    (anyA_pre (r.length + 1) p _ τ hp hcl b1 (WO.mono p (fun τ' hp' h' => anyA_two hcl' (of_decide_eq_true b2) (Nat.eq_of_beq_eq_true b5) b3 b4 h') h))
  rwa [hlen, show l.length = l.toArray.size by simp] at H
end

section
variable {P : Program} {F : Frm} {τ : Nat → AV} {hp : List Blk} {N : Nat} {Q : Exit → AS → Prop}
/-- two blocks at the end, the other way round -/
theorem wk_swap (k : Nat) {h : List Blk} {x : Blk} {b : Nat} {t : TypeId} {cs : List AV} (cs' : List AV) (he : evl hp = some (h ++ [x, .box b t cs])) (hc : ∀ M xs, RAs M cs xs → RAs M cs' xs) (_hk : h.length = k) : Wk F ⟨τ, hp, N⟩ ⟨τ, h ++ [.box b t cs', x], N⟩ := by
  intro M a w hr
  have he := (evl_eq he).symm
  subst he
  have key : ∀ (i : Nat) (y : Blk), (h ++ [.box b t cs', x])[i]? = some y → ∃ j z, (h ++ [x, .box b t cs])[j]? = some z ∧ z.blk = y.blk ∧ (BlkOk M w z → BlkOk M w y) ∧ j = (if i = h.length then h.length + 1 else if i = h.length + 1 then h.length else i) := by
    intro i y hy
    rcases Nat.lt_or_ge i h.length with hi | hi
    · rw [List.getElem?_append_left hi] at hy
      exact ⟨i, y, by rw [List.getElem?_append_left hi]; exact hy, rfl, id, by rw [if_neg (by omega), if_neg (by omega)]⟩
    · rw [List.getElem?_append_right hi] at hy
      rcases hj : i - h.length with _ | _ | j
      · rw [hj] at hy
        obtain rfl : Blk.box b t cs' = y := by simpa using hy
        refine ⟨h.length + 1, .box b t cs, by simp, rfl, ?_, by rw [if_pos (by omega)]⟩
        rintro ⟨xs, h1, h2, h3⟩
        exact ⟨xs, h1, hc _ _ h2, h3⟩
      · rw [hj] at hy
        obtain rfl : x = y := by simpa using hy
        exact ⟨h.length, x, by simp, rfl, id, by rw [if_neg (by omega), if_pos (by omega)]⟩
      · rw [hj] at hy; simp at hy
  have hh := hr.heap
  refine ⟨M, hr.tmps, hr.size, hr.defers, hh.mem, hh.ext, hh.frm, fun i y hy => ?_, fun i j y z c hy hz h1 h2 => ?_, fun i y c hy h1 => ?_⟩
  · obtain ⟨j, z, h1, _, h2, _⟩ := key i y hy
    exact h2 (hh.at_ j z h1)
  · obtain ⟨i', y', g1, g2, _, g3⟩ := key i y hy
    obtain ⟨j', z', g4, g5, _, g6⟩ := key j z hz
    have := hh.sep i' j' y' z' c g1 g4 (by rw [g2]; exact h1) (by rw [g5]; exact h2)
    rw [g3, g6] at this
    repeat' split at this
    all_goals omega
  · obtain ⟨i', y', g1, g2, _, _⟩ := key i y hy
    exact hh.out i' y' c g1 (by rw [g2]; exact h1)
theorem x_swap {c : Code} (k : Nat) {h hp' : List Blk} {x : Blk} {b : Nat} {t : TypeId} {cs : List AV} (cs' : List AV) (he : evl hp = some (h ++ [x, .box b t cs])) (hc : ∀ M xs, RAs M cs xs → RAs M cs' xs) (hk : h.length = k) (hf : evl (h ++ [.box b t cs', x]) = some hp') (hq : AC P F c Q ⟨τ, hp', N⟩) : AC P F c Q ⟨τ, hp, N⟩ :=
  ac_wk (wk_swap k cs' he hc hk) (by rw [evl_eq hf] at hq; exact hq)
/-- a pointer whose block now lies elsewhere in the list -/
theorem wk_reptr (s j : Nat) {i b off : Nat} (hs : τ s = .ptr i b off) : Wk F ⟨τ, hp, N⟩ ⟨upd N s (.ptr j b off) τ, hp, N⟩ := by
  intro M a w hr
  refine ⟨M, fun i => ?_, hr.size, hr.defers, hr.heap⟩
  have := hr.tmps i
  simp only [upd] at this ⊢
  cases hc : Nat.beq i s with
  | false => simp only [Bool.false_and, cond_false]; exact this
  | true =>
    obtain rfl := Nat.eq_of_beq_eq_true hc
    simp only [hs] at this
    cases hN : Nat.blt i N with
    | false => simp only [Bool.and_false, cond_false]; rw [hs]; exact this
    | true => simp only [Bool.and_true, cond_true]; simp only [RA] at this ⊢; exact this
theorem x_reptr {c : Code} (s j : Nat) {i b off : Nat} (hs : τ s = .ptr i b off) (hq : AC P F c Q ⟨upd N s (.ptr j b off) τ, hp, N⟩) : AC P F c Q ⟨τ, hp, N⟩ := ac_wk (wk_reptr s j hs) hq
/-- what a variable holds, read otherwise (nil as an empty row) -/
theorem wk_cells (i : Nat) (ts : List T) {b : Nat} {t : TypeId} {cs : List AV} (hi : hp[i]? = some (.box b t cs)) (hz : Rzs [] cs ts) : Wk F ⟨τ, hp, N⟩ ⟨τ, hp.set i (.box b t (ts.map .c)), N⟩ := by
  intro M a w hr
  have key : ∀ (j : Nat) (y : Blk), (hp.set i (.box b t (ts.map .c)))[j]? = some y → ∃ z, hp[j]? = some z ∧ z.blk = y.blk ∧ (BlkOk M w z → BlkOk M w y) := by
    intro j y hy
    rw [List.getElem?_set] at hy
    by_cases hj : i = j
    · subst hj
      have hlt : i < hp.length := (List.getElem?_eq_some_iff.1 hi).1
      rw [if_pos rfl, if_pos hlt] at hy
      obtain rfl : Blk.box b t (ts.map .c) = y := by injection hy
      refine ⟨_, hi, rfl, ?_⟩
      rintro ⟨xs, h1, h2, h3⟩
      exact ⟨xs, h1, RAs.ofT (cls_sound _ _ _ hz h2), h3⟩
    · rw [if_neg hj] at hy
      exact ⟨y, hy, rfl, id⟩
  have hh := hr.heap
  refine ⟨M, hr.tmps, hr.size, hr.defers, hh.mem, hh.ext, hh.frm, fun i y hy => ?_, fun i j y z c hy hz h1 h2 => ?_, fun i y c hy h1 => ?_⟩
  · obtain ⟨z, h1, _, h2⟩ := key i y hy
    exact h2 (hh.at_ i z h1)
  · obtain ⟨y', g1, g2, _⟩ := key i y hy
    obtain ⟨z', g3, g4, _⟩ := key j z hz
    exact hh.sep i j y' z' c g1 g3 (by rw [g2]; exact h1) (by rw [g4]; exact h2)
  · obtain ⟨y', g1, g2, _⟩ := key i y hy
    exact hh.out i y' c g1 (by rw [g2]; exact h1)
theorem x_cells {c : Code} (i : Nat) (ts : List T) {b : Nat} {t : TypeId} {cs : List AV} {hp' : List Blk} (hq : AC P F c Q ⟨τ, hp', N⟩) (hi : hp[i]? = some (.box b t cs) := by exact rfl) (hz : Rzs [] cs ts := by repeat (first | exact rzs_nil | apply rzs_cons | exact rz_c | exact rz_nil rfl | apply rz_agg)) (hf : evl (hp.set i (.box b t (ts.map .c))) = some hp' := by exact rfl) : AC P F c Q ⟨τ, hp, N⟩ :=
  ac_wk (wk_cells i ts hi hz) (by rw [evl_eq hf] at hq; exact hq)
/-- every end of x is one of these states -/
theorem x_join {A : Type} {x y : Code} {Q' : Exit → AS → Prop} (W : List Nat) (slots : A → List (Nat × AV)) (hps : A → List Blk) (h2 : ∀ a, AC P F y Q ⟨atT τ W (slots a), hps a, N⟩) (h1 : AC P F x (thenA (fun σ => ∃ a, Wk F σ ⟨atT τ W (slots a), hps a, N⟩) Q') ⟨τ, hp, N⟩) : AC P F x (thenA (AC P F y Q) Q') ⟨τ, hp, N⟩ := by
  refine h1.mono fun e σ' h => ?_
  cases e <;> first | exact h | (obtain ⟨a, ha⟩ := h; exact ac_wk ha (h2 a))
/-- to a state in which only these slots are told -/
theorem x_to {c : Code} {τ' : Nat → AV} {W : List Nat} {l : List (Nat × AV)} {hp' : List Blk} (hq : AC P F c Q ⟨atT τ' W l, hp', N⟩) (hl : HasT τ l) (hh : evl hp = some hp') (h : AgT W τ τ') : AC P F c Q ⟨τ, hp, N⟩ :=
  ac_wk (x_wk hl (evl_eq hh).symm h) hq
end
section
variable {P : Program} {F : Frm} {L : Tab} {d : Option Tmp} {ty : TypeId} {pos : String} {aft : Array Edge} {g : Option (Nat × Bool)} {ρ : Operand → AV} {hp : List Blk} {K : AV → List Blk → Prop}
theorem zMk {t el : TypeId} {ti te : TI} {x y : Operand} (n : Nat) (z : List T) {k : IntKind} {a a' : Int} {q : Nat} {hp' : Value → List Blk} (h : ∀ v, K (.own q v) (hp' v)) (hL : TabOk P L := by exact tok) (hx : ρ x = .c (.lit (.int k a)) := by exact rfl) (hy : ρ y = .c (.lit (.int k a')) := by exact rfl) (hz : a = (n : Int) := by first | exact rfl | assumption) (hz' : a' = (n : Int) := by first | exact rfl | assumption) (ht : L.look t = some ti := by exact rfl) (hd : ti.d = .slice el := by exact rfl) (hte : L.look el = some te := by exact rfl) (h0 : Nat.ble 1 te.size = true := by exact rfl)
    (hzz : Rzs [] (te.zero.map fun v => .c (.lit v)) z := by repeat (first | exact rzs_nil | apply rzs_cons | exact rz_c | exact rz_nil rfl)) (hq : lenU hp = some q := by exact rfl) (hf : ∀ v, evl (hp ++ [.row v el te.size n (List.replicate n z).flatten]) = some (hp' v) := by exact fun _ => rfl)
    (hn : n * te.bytes ≤ 140737488355328 := by first | (simp only []; omega) | (dsimp only at *; omega)) (hn2 : n ≤ 140737488355328 := by first | omega | (dsimp only at *; omega)) : LO P F ⟨d, .makeSlice t x y, ty, pos, aft, g⟩ ρ hp K :=
  lo_make hL n hx hy hz hz' ht hd hte h0 hn hn2 hzz fun v => by rw [← evl_eq (hf v), ← lenU_eq hq]; exact h v
/-- a store into a row of the call's own; what the row then holds must be told -/
theorem zSe {t : TypeId} {ti : TI} {x y : Operand} {i off n sz : Nat} {v : Value} {e' : TypeId} {cs us cs' : List T} {u : AV} {vs : List AV} {hp' : List Blk} (hsp : spl cs off us = cs') (hb : off + ti.size ≤ cs.length) (h : K (.c (.lit undef)) hp') (hL : TabOk P L := by exact tok) (hx : ρ x = .eptr i v off := by exact rfl) (hi : hp[i]? = some (.row v e' sz n cs) := by exact rfl) (hy : fc (ρ y) = some u := by exact rfl) (ht : L.look t = some ti := by exact rfl)
    (hc : evl (cellsA u) = some vs := by exact rfl) (h1 : allOne vs = true := by exact rfl) (hl : lenU vs = some ti.size := by exact rfl) (hz : Rzs [] vs us := by repeat (first | exact rzs_nil | apply rzs_cons | exact rz_c | exact rz_nil rfl | apply rz_agg)) (hf : evl (hp.set i (.row v e' sz n cs')) = some hp' := by exact rfl) : LO P F ⟨d, .store t x y, ty, pos, aft, g⟩ ρ hp K := by
  have hc' := evl_eq hc
  subst hsp
  rw [hc'] at h1 hz hl
  refine lo_store_e hL hx hi (fc_eq hy) ht h1 (lenU_eq hl).symm hz hb ?_
  rw [← evl_eq hf]
  exact h
theorem zFinA {res : List ResultVar} {σ : AS} {e : Exit} {vs : List AV} (h : K (outA vs) σ.hp) (he : e = .normal ∨ e = .ret := by first | exact .inl rfl | exact .inr rfl) (ho : OutsA L σ res vs := by exact rfl) : FinA L res K e σ := ⟨he, vs, ho, h⟩
end

end Go.Proofs.Ythgackidonocpaa
