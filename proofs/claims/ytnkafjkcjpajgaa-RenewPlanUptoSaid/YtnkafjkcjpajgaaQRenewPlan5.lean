/-
  Texts of this proof, part 5: Ab16 Ab17 Ab18 Ab19 Ab26 Tv Tvp Tsm Ty.
-/
import Derived.Test.YtnkafjkcjpajgaaQRenewPlan4
import Derived.Lib.AppendStr
import Derived.Lib.AppendZerosOnto
import Derived.Lib.MinMax
import Derived.MapKept
namespace Go.Proofs.Ytnkafjkcjpajgaa
open Go.RowKit
def isPtr (P : Program) (t : TypeId) : Bool := match P.underlying t with | some (.pointer _) => true | _ => false
theorem isPtr_eq {P : Program} {t : TypeId} (h : isPtr P t = true) : ∃ e, P.underlying t = some (.pointer e) := by
  unfold isPtr at h
  split at h
  · exact ⟨_, by assumption⟩
  · cases h
theorem run_nil {P : Program} {t : TypeId} (h : isPtr P t = true) (a : Option Addr) (w : World) : (Op.equal t (.pointer a) (.pointer none)).run P w = .ok a.isNone w := by
  obtain ⟨e, he⟩ := isPtr_eq h
  rw [Op.equal, show Op.maxDepth = 9999 + 1 from rfl, Op.equalIn]
  simp only [Sem.run_bind, run_underlying he, Result.andThen_ok]
  cases a <;> rfl
theorem guard_ptr {P : Program} {op : BinOp} {t : TypeId} {x y : Operand} {a b : Option Addr} (w : World) : (eqGuard op t x y (.pointer a) (.pointer b)).run P w = .ok () w := by
  unfold eqGuard; simp
section
variable {P : Program} {F : Frm} {L : Tab} {d : Option Tmp} {ty : TypeId} {pos : String} {aft : Array Edge} {g : Option (Nat × Bool)} {ρ : Operand → AV} {hp : List Blk} {K : AV → List Blk → Prop}
theorem lo_nil {t t' : TypeId} {x y : Operand} {v : AV} {c : Bool} (hx : ρ x = v) (hv : ∀ M u, RA M v u → ∃ a : Option Addr, u = .pointer a ∧ a.isNone = c) (hy : ρ y = .c (.lit (.pointer none))) (hu : isPtr P t = true) (h : K (.c (.lit (.bool c))) hp) : LO P F ⟨d, .binOp .eql t x y t', ty, pos, aft, g⟩ ρ hp K := by
  refine LO.same (fun M e w he hh => ?_) h
  have h1 := he x (by first | (simp [Op.operands]; done) | simp [Op.operands, Call.operands])
  rw [hx] at h1
  obtain ⟨a, ha, hc⟩ := hv M _ h1
  have h2 := he y (by first | (simp [Op.operands]; done) | simp [Op.operands, Call.operands])
  rw [hy] at h2
  simp only [RA, RT] at h2
  refine ⟨.bool c, ?_, by simp only [RA, RT]⟩
  simp [execOp, ha, h2, guard_ptr, binOp, run_nil hu, hc]
theorem lo_nnil {t t' : TypeId} {x y : Operand} {v : AV} {c : Bool} (hx : ρ x = v) (hv : ∀ M u, RA M v u → ∃ a : Option Addr, u = .pointer a ∧ a.isNone = c) (hy : ρ y = .c (.lit (.pointer none))) (hu : isPtr P t = true) (h : K (.c (.lit (.bool (!c)))) hp) : LO P F ⟨d, .binOp .neq t x y t', ty, pos, aft, g⟩ ρ hp K := by
  refine LO.same (fun M e w he hh => ?_) h
  have h1 := he x (by first | (simp [Op.operands]; done) | simp [Op.operands, Call.operands])
  rw [hx] at h1
  obtain ⟨a, ha, hc⟩ := hv M _ h1
  have h2 := he y (by first | (simp [Op.operands]; done) | simp [Op.operands, Call.operands])
  rw [hy] at h2
  simp only [RA, RT] at h2
  refine ⟨.bool (!c), ?_, by simp only [RA, RT]⟩
  simp [execOp, ha, h2, guard_ptr, binOp, run_nil hu, hc]
theorem pin_some (cs : List T) (off : Nat) (M : Mm) (u : Value) (h : RA M (.c (.pin cs off)) u) : ∃ a : Option Addr, u = .pointer a ∧ a.isNone = false := by
  simp only [RA, RT] at h
  obtain ⟨ad, xs, rfl, _⟩ := h
  exact ⟨_, rfl, rfl⟩
theorem nil_none (M : Mm) (u : Value) (h : RA M (.c (.lit (.pointer none))) u) : ∃ a : Option Addr, u = .pointer a ∧ a.isNone = true := by
  simp only [RA, RT] at h
  exact ⟨_, h, rfl⟩
theorem ptr_some (i b off : Nat) (M : Mm) (u : Value) (h : RA M (.ptr i b off) u) : ∃ a : Option Addr, u = .pointer a ∧ a.isNone = false := by
  simp only [RA] at h
  exact ⟨_, h, rfl⟩
variable {t t' : TypeId} {x y : Operand} {cs : List T} {off i b : Nat}
theorem zQ1 (h : K (.c (.lit (.bool false))) hp) (hx : ρ x = .c (.pin cs off) := by exact rfl) (hy : ρ y = .c (.lit (.pointer none)) := by exact rfl) (hu : isPtr P t = true := by kernel_rfl) : LO P F ⟨d, .binOp .eql t x y t', ty, pos, aft, g⟩ ρ hp K := lo_nil hx (pin_some cs off) hy hu h
theorem zQ2 (h : K (.c (.lit (.bool true))) hp) (hx : ρ x = .c (.lit (.pointer none)) := by exact rfl) (hy : ρ y = .c (.lit (.pointer none)) := by exact rfl) (hu : isPtr P t = true := by kernel_rfl) : LO P F ⟨d, .binOp .eql t x y t', ty, pos, aft, g⟩ ρ hp K := lo_nil hx nil_none hy hu h
theorem zQ3 (h : K (.c (.lit (.bool false))) hp) (hx : ρ x = .ptr i b off := by exact rfl) (hy : ρ y = .c (.lit (.pointer none)) := by exact rfl) (hu : isPtr P t = true := by kernel_rfl) : LO P F ⟨d, .binOp .eql t x y t', ty, pos, aft, g⟩ ρ hp K := lo_nil hx (ptr_some i b off) hy hu h
theorem zQ4 (h : K (.c (.lit (.bool true))) hp) (hx : ρ x = .c (.pin cs off) := by exact rfl) (hy : ρ y = .c (.lit (.pointer none)) := by exact rfl) (hu : isPtr P t = true := by kernel_rfl) : LO P F ⟨d, .binOp .neq t x y t', ty, pos, aft, g⟩ ρ hp K := lo_nnil hx (pin_some cs off) hy hu h
theorem zQ5 (h : K (.c (.lit (.bool false))) hp) (hx : ρ x = .c (.lit (.pointer none)) := by exact rfl) (hy : ρ y = .c (.lit (.pointer none)) := by exact rfl) (hu : isPtr P t = true := by kernel_rfl) : LO P F ⟨d, .binOp .neq t x y t', ty, pos, aft, g⟩ ρ hp K := lo_nnil hx nil_none hy hu h
theorem zQ6 (h : K (.c (.lit (.bool true))) hp) (hx : ρ x = .ptr i b off := by exact rfl) (hy : ρ y = .c (.lit (.pointer none)) := by exact rfl) (hu : isPtr P t = true := by kernel_rfl) : LO P F ⟨d, .binOp .neq t x y t', ty, pos, aft, g⟩ ρ hp K := lo_nnil hx (ptr_some i b off) hy hu h
theorem lo_nck {v : AV} (hx : ρ x = v) (hv : ∀ M u, RA M v u → ∃ a : Option Addr, u = .pointer a ∧ a.isNone = false) (h : K v hp) : LO P F ⟨d, .nilCheck x, ty, pos, aft, g⟩ ρ hp K := by
  refine LO.same (fun M e w he hh => ?_) h
  have h1 := he x (by first | (simp [Op.operands]; done) | simp [Op.operands, Call.operands])
  rw [hx] at h1
  obtain ⟨a, ha, hc⟩ := hv M _ h1
  cases a with
  | none => cases hc
  | some a => exact ⟨.pointer (some a), by simp [execOp, ha], by rw [← ha]; exact h1⟩
theorem zK1 (h : K (.c (.pin cs off)) hp) (hx : ρ x = .c (.pin cs off) := by exact rfl) : LO P F ⟨d, .nilCheck x, ty, pos, aft, g⟩ ρ hp K := lo_nck hx (pin_some cs off) h
theorem zK2 (h : K (.ptr i b off) hp) (hx : ρ x = .ptr i b off := by exact rfl) : LO P F ⟨d, .nilCheck x, ty, pos, aft, g⟩ ρ hp K := lo_nck hx (ptr_some i b off) h
end
section
variable {F : Frm} {τ : Nat → AV} {hp : List Blk} {N : Nat}
theorem heap_frzG {M : Mm} {w : World} (hh : HeapOk F M hp w) {i : Nat} {z : Blk} (hi : hp[i]? = some z) : HeapOk F (frB M z.blk w) (hp.set i .dead) w := by
  have hsub := frB_sub M z.blk w
  have hlt : i < hp.length := (List.getElem?_eq_some_iff.1 hi).1
  have hget : ∀ (j : Nat) (x : Blk), (hp.set i .dead)[j]? = some x → (j = i ∧ x = .dead) ∨ (j ≠ i ∧ hp[j]? = some x) := by
    intro j x hx
    by_cases hj : j = i
    · subst hj
      rw [List.getElem?_set_self hlt] at hx
      exact .inl ⟨rfl, by injection hx with hx; exact hx.symm⟩
    · rw [List.getElem?_set_ne (Ne.symm hj)] at hx
      exact .inr ⟨hj, hx⟩
  refine ⟨?_, ?_, hh.frm, ?_, ?_, ?_⟩
  · intro p u hp
    cases hc : M p with
    | none => exact (frB_new hp hc).2
    | some u' =>
      have := hsub p u' hc
      rw [hp] at this
      obtain rfl : u = u' := by injection this
      exact hh.mem p u hc
  · refine ⟨fun p u hp => hsub p u (hh.ext.1 p u hp), fun p u hp => ?_⟩
    cases hc : M p with
    | none =>
      obtain ⟨hg, _⟩ := frB_new hp hc
      exact .inr (hh.out i _ p.block hi hg).1
    | some u' =>
      have := hsub p u' hc
      rw [hp] at this
      obtain rfl : u = u' := by injection this
      exact hh.ext.2 p u hc
  · intro j x hx
    rcases hget j x hx with ⟨_, rfl⟩ | ⟨_, hx⟩
    · trivial
    · exact (hh.at_ j x hx).keep hsub fun _ _ _ => rfl
  · intro j k x y b hx hy hxb hyb
    rcases hget j x hx with ⟨_, rfl⟩ | ⟨_, hx⟩
    · simp [Blk.blk] at hxb
    · rcases hget k y hy with ⟨_, rfl⟩ | ⟨_, hy⟩
      · simp [Blk.blk] at hyb
      · exact hh.sep j k x y b hx hy hxb hyb
  · intro j x b hx hxb
    rcases hget j x hx with ⟨_, rfl⟩ | ⟨hj, hx⟩
    · simp [Blk.blk] at hxb
    · obtain ⟨h1, h2⟩ := hh.out j x b hx hxb
      refine ⟨h1, fun p hp => ?_⟩
      cases hc : frB M z.blk w p with
      | none => rfl
      | some u =>
        obtain ⟨hg, _⟩ := frB_new hc (h2 p hp)
        exact absurd (hh.sep j i x _ b hx hi hxb (by rw [← hp]; exact hg)) hj
theorem wk_frzb (_hX : ∀ b, ¬ F.X b) (s : Nat) (ts : List T) {i b off : Nat} {t : TypeId} {cs : List AV} {hp' : List Blk} (hs : τ s = .ptr i b off) (hi : hp[i]? = some (.box b t cs)) (hz : Rzs [] cs ts) (hf : evl (hp.set i .dead) = some hp') (hN : Nat.blt s N = true) : Wk F ⟨τ, hp, N⟩ ⟨upd N s (.c (.pin ts off)) τ, hp', N⟩ := by
  intro M a w hr
  have h1 := heap_frzG hr.heap hi
  rw [← evl_eq hf] at h1
  obtain ⟨xs, hh, hx, hone⟩ := hr.heap.at_ i _ hi
  have h2 : RT (frB M (Blk.box b t cs).blk w) (.pin ts off) (.pointer (some ⟨b, off, none⟩)) := by
    simp only [RT]
    refine ⟨⟨b, 0, none⟩, xs, by unfold Addr.add; split <;> simp_all, fun j x hj => ?_, RTs.mono (frB_sub _ _ _) _ _ (cls_sound cs ts xs hz hx)⟩
    have hadd : (⟨b, 0, none⟩ : Addr).add j = ⟨b, j, none⟩ := by unfold Addr.add; split <;> simp_all
    rw [hadd]
    have hn : M ⟨b, j, none⟩ = none := (hr.heap.out i _ b hi rfl).2 _ rfl
    have hc : w.cell? ⟨b, j, none⟩ = some x := by rw [cell_of_row _ b j _ _ _ hh]; simpa using hj
    simp [frB, hn, Blk.blk, hc, hone x (List.mem_of_getElem? hj)]
  refine ⟨_, fun k => ?_, hr.size, hr.defers, h1⟩
  simp only [upd]
  cases hc : Nat.beq k s with
  | false => simp only [Bool.false_and, cond_false]; exact RA.mono (frB_sub _ _ _) _ _ (hr.tmps k)
  | true =>
    have := Nat.eq_of_beq_eq_true hc
    subst this
    have h3 : RA M (τ k) (a.tmps.getD k undef) := hr.tmps k
    rw [hs] at h3
    simp only [RA] at h3
    rw [hN]
    simp only [Bool.and_self, cond_true, RA]
    rw [h3]; exact h2
theorem x_frzb {P : Program} {Q : Exit → AS → Prop} {c : Code} (hX : ∀ b, ¬ F.X b) (s : Nat) (ts : List T) {i b off : Nat} {t : TypeId} {cs : List AV} {hp' : List Blk} (h : AC P F c Q ⟨upd N s (.c (.pin ts off)) τ, hp', N⟩) (hs : τ s = .ptr i b off := by exact rfl) (hi : hp[i]? = some (.box b t cs) := by exact rfl) (hz : Rzs [] cs ts := by repeat (first | exact rzs_nil | apply rzs_cons | exact rz_c | exact rz_nil rfl | apply rz_agg | exact rz_own rfl | apply rz_fn | exact rz_ptr rfl | apply rz_tup)) (hf : evl (hp.set i .dead) = some hp' := by exact rfl) (hN : Nat.blt s N = true := by exact rfl) : AC P F c Q ⟨τ, hp, N⟩ :=
  ac_wk (wk_frzb hX s ts hs hi hz hf hN) h
end
end Go.Proofs.Ytnkafjkcjpajgaa
namespace Go.Proofs.Ytnkafjkcjpajgaa
open Go.RowKit
section
variable {P : Program} {F : Frm} {c : Code} {Q : Exit → AS → Prop} {τ : Nat → AV} {hp : List Blk} {N : Nat}
theorem x_fact (s : Nat) {t : T} {X : Prop} (hs : τ s = .c t) (hrt : ∀ M u, RT M t u → X) (h : X → AC P F c Q ⟨τ, hp, N⟩) : AC P F c Q ⟨τ, hp, N⟩ :=
  ⟨fun M a w hr => (h (hrt M _ (by
    have h1 := hr.tmps s
    rw [show (AS.mk τ hp N).tmps s = AV.c t from hs] at h1
    simpa only [RA] using h1))).out M a w hr⟩
theorem rt_len {M : Mm} {n sz : Nat} {cs : List T} {u : Value} (h : RT M (.row n sz cs) u) : n ≤ 9223372036854775807 := by
  simp only [RT] at h
  obtain ⟨A, k, xs, h1, h2, h3, _⟩ := h
  simpa [maxLen] using h3
theorem x_len (s : Nat) {n sz : Nat} {cs : List T} (hs : τ s = .c (.row n sz cs)) (h : n ≤ 9223372036854775807 → AC P F c Q ⟨τ, hp, N⟩) : AC P F c Q ⟨τ, hp, N⟩ := x_fact s hs (fun _ _ h => rt_len h) h
theorem x_pinlen (s j : Nat) {ts : List T} {off n sz : Nat} {cs : List T} (hs : τ s = .c (.pin ts off)) (hj : ts[j]? = some (.row n sz cs)) (h : n ≤ 9223372036854775807 → AC P F c Q ⟨τ, hp, N⟩) : AC P F c Q ⟨τ, hp, N⟩ :=
  x_fact s hs (fun M u hr => by
    simp only [RT] at hr
    obtain ⟨ad, xs, _, _, h3⟩ := hr
    obtain ⟨x, _, h4⟩ := h3.get hj
    exact rt_len h4) h
end
end Go.Proofs.Ytnkafjkcjpajgaa
namespace Go.Proofs.Ytnkafjkcjpajgaa
open Go.RowKit
/-- keys of a kind, told by what they stand for -/
structure KeyIs {α : Type} (dk : TypeDesc) (κ : α → Value) : Prop where
  is : ∀ a, MapKept.IsKey dk (κ a)
  inj : ∀ a b, κ a = κ b → a = b
theorem keyStr : KeyIs .string Value.string := ⟨fun _ => trivial, fun _ _ h => by injection h⟩
theorem keyInt (k : IntKind) : KeyIs (.int k) (Value.int k) := ⟨fun _ => rfl, fun _ _ h => by injection h⟩
section
variable {α : Type} [DecidableEq α]
def mkeys (κ : α → Value) (l : List (α × T)) : List (Value × T) := l.map fun p => (κ p.1, p.2)
def mget (k : α) : List (α × T) → Option T
  | [] => none
  | (k', t) :: l => if k = k' then some t else mget k l
def mput (k : α) (t : T) : List (α × T) → List (α × T)
  | [] => [(k, t)]
  | (k', t') :: l => if k = k' then (k, t) :: l else (k', t') :: mput k t l
theorem mget_put (k k' : α) (t : T) : ∀ l : List (α × T), mget k (mput k' t l) = if k = k' then some t else mget k l
  | [] => by simp [mput, mget]
  | (k2, t2) :: l => by
    simp only [mput]
    by_cases h : k' = k2
    · subst h
      simp only [if_true, mget]
      split <;> rfl
    · simp only [if_neg h, mget, mget_put k k' t l]
      by_cases h2 : k = k2
      · subst h2
        simp [Ne.symm h]
      · simp [h2]
theorem find_keys {dk : TypeDesc} {κ : α → Value} (hκ : KeyIs dk κ) (k : α) : ∀ (l : List (α × T)) (es : List MapEntry) (i : Nat), es.map (·.key) = l.map (fun p => κ p.1) →
    (Instr.findNow dk (κ k) es i = some none ∧ mget k l = none ∧ ∀ t, mput k t l = l ++ [(k, t)]) ∨
    ∃ j e t, Instr.findNow dk (κ k) es i = some (some (i + j, e.val)) ∧ es[j]? = some e ∧ l[j]? = some (k, t) ∧ mget k l = some t ∧ ∀ t', mput k t' l = l.set j (k, t')
  | [], es, i, h => by
    obtain rfl : es = [] := by simpa using h
    exact .inl ⟨rfl, rfl, fun _ => rfl⟩
  | (k', t') :: l, [], i, h => by simp at h
  | (k', t') :: l, e :: es, i, h => by
    simp only [List.map_cons, List.cons.injEq] at h
    obtain ⟨r, hr, hiff⟩ := MapKept.sameNow_of_keys (hκ.is k) (by rw [h.1]; exact hκ.is k' : MapKept.IsKey dk e.key)
    rw [h.1] at hiff
    by_cases hk : k = k'
    · subst hk
      obtain rfl : r = true := hiff.2 rfl
      exact .inr ⟨0, e, t', by simp [Instr.findNow, hr], rfl, rfl, by simp [mget], fun t => by simp [mput]⟩
    · have hrf : r = false := by
        cases r with
        | false => rfl
        | true => exact absurd (hκ.inj _ _ (hiff.1 rfl)) hk
      subst hrf
      rcases find_keys hκ k l es (i + 1) h.2 with ⟨h1, h2, h3⟩ | ⟨j, e', t, h1, h2, h3, h4, h5⟩
      · exact .inl ⟨by simp [Instr.findNow, hr, h1], by simp [mget, hk, h2], fun t => by simp [mput, hk, h3]⟩
      · exact .inr ⟨j + 1, e', t, by simp [Instr.findNow, hr, h1]; omega, by simpa using h2, by simpa using h3, by simp [mget, hk, h4], fun t => by simp [mput, hk, h5]⟩
end
theorem sameBits_key {dk : TypeDesc} {v : Value} (h : MapKept.IsKey dk v) (n : Nat) : Instr.sameBits n v v = true := by
  cases dk <;> cases v <;> simp_all [MapKept.IsKey, Instr.sameBits, MapKept.bytes_beq]
theorem run_stays {P : Program} {dk : TypeDesc} {v : Value} (h : MapKept.IsKey dk v) (w : World) : (Instr.keyThatStays v v).run P w = .ok v w := by
  unfold Instr.keyThatStays
  rw [if_pos (sameBits_key h _)]
  rfl
section
variable {P : Program} {F : Frm} {L : Tab} {d : Option Tmp} {ty : TypeId} {pos : String} {aft : Array Edge} {g : Option (Nat × Bool)} {ρ : Operand → AV} {hp : List Blk} {K : AV → List Blk → Prop}
theorem lo_makeMap {t : TypeId} (h : ∀ b, K (.own hp.length (.map (some b))) (hp ++ [.mp b []])) : LO P F ⟨d, .makeMap t none, ty, pos, aft, g⟩ ρ hp K := by
  refine ⟨fun M e w he hh => ?_⟩
  have : (execOp e ⟨d, .makeMap t none, ty, pos, aft, g⟩).run P w = .ok (.value (.map (some w.heap.size))) (w.alloc (.map #[] 0)) := by
    have hm : (Instr.makeMap t none).run P w = .ok (.map (some w.heap.size)) (w.alloc (.map #[] 0)) := rfl
    simp [execOp, hm]
  rw [this]
  refine ⟨M, _, _, h w.heap.size, Ext.refl _ _, ?_, by simp only [RA]; exact ⟨trivial, rfl⟩⟩
  refine hh.step hp.length rfl rfl rfl (by simp) (fun b hb _ => Below.heap_alloc _ _ _ hb) (Ext.refl _ _) (fun p v h1 h2 => by rw [h2] at h1; cases h1) (fun j hj => ?_) (fun x' hx' => ?_)
  · rcases Nat.lt_or_ge j hp.length with h | h
    · rw [List.getElem?_append_left h]
    · rw [List.getElem?_eq_none (by simp; omega), List.getElem?_eq_none (by omega)]
  · have : x' = .mp w.heap.size [] := by simpa using hx'.symm
    subst this
    refine ⟨⟨[], 0, heap_alloc_new w _, rfl, by simp [RTs], ⟨List.nodup_nil, fun _ h => by cases h⟩, fun _ h => by cases h⟩, fun b hb => .inr ?_⟩
    obtain rfl : w.heap.size = b := by simpa [Blk.blk] using hb
    refine ⟨Nat.le_refl _, fun p hp => ?_⟩
    cases hc : M p with
    | none => rfl
    | some v => have := World.block_lt_of_cell? w p (hh.mem p v hc).1; omega
variable {α : Type} [DecidableEq α] {κ : α → Value} {dk : TypeDesc} {xT kT eT : TypeId} {x y z : Operand} {i b : Nat} {l : List (α × T)} {k : α} {te : TI} {z0 : Value} {o : Option (List Nat × Nat)}
theorem lo_lookup (hκ : KeyIs dk κ) (hL : TabOk P L) (hu : P.underlying xT = some (.map kT eT)) (hk : P.underlying kT = some dk) (hte : L.look eT = some te) (hz : te.zero = [z0]) (ha : te.agg = false) (hx : ρ x = .own i (.map (some b))) (hi : hp[i]? = some (.mpx b (mkeys κ l) o)) (hy : ρ y = .c (.lit (κ k)))
    (h : K (.c ((mget k l).getD (.lit z0))) hp) : LO P F ⟨d, .lookup xT x y false, ty, pos, aft, g⟩ ρ hp K := by
  refine LO.same (fun M e w he hh => ?_) h
  have h1 := he x (by first | (simp [Op.operands]; done) | simp [Op.operands, Call.operands])
  rw [hx] at h1
  simp only [RA] at h1
  have h2 := he y (by first | (simp [Op.operands]; done) | simp [Op.operands, Call.operands])
  rw [hy] at h2
  simp only [RA, RT] at h2
  obtain ⟨es, clock, hb, hkeys, hvals, hstm, hst⟩ := hh.at_ i _ hi
  have hkeys' : es.map (·.key) = l.map (fun p => κ p.1) := by rw [hkeys]; simp [mkeys]
  have hvals' : RTs M (l.map (·.2)) (es.map (·.val)) := by simpa [mkeys, Function.comp_def] using hvals
  rcases find_keys hκ k l es 0 hkeys' with ⟨f1, f2, _⟩ | ⟨j, e', t, f1, f2, f3, f4, _⟩
  · obtain ⟨inf, zv, g1, _, _, g2, g3, g4, g5⟩ := hL.info hte
    have hzv : zv = z0 := by
      rw [ha] at g5
      rw [hz] at g3
      cases zv <;> simp_all [Value.cells]
    have hzr : (zeroValue eT).run P w = .ok z0 w := by simp [zeroValue, typeInfo, g1, g2, hzv]
    refine ⟨z0, ?_, by rw [f2]; simp only [Option.getD_none, RA, RT]⟩
    simp [execOp, Instr.lookup, h1.1, h2, run_underlying hu, MapKept.run_getObj_map hb, MapKept.run_checkKey hk (hκ.is k), MapKept.run_findKey hk f1, hzr]
  · obtain ⟨u, hu1, hu2⟩ := hvals'.get (j := j) (t := t) (by rw [List.getElem?_map, f3]; rfl)
    rw [List.getElem?_map, f2] at hu1
    obtain rfl : e'.val = u := by simpa using hu1
    refine ⟨e'.val, ?_, by rw [f4]; simpa only [Option.getD_some, RA] using hu2⟩
    simp [execOp, Instr.lookup, h1.1, h2, run_underlying hu, MapKept.run_getObj_map hb, MapKept.run_checkKey hk (hκ.is k), MapKept.run_findKey hk f1]
theorem set_modify (es : List MapEntry) (j : Nat) (f : MapEntry → MapEntry) {e : MapEntry} (h : es[j]? = some e) : es.modify j f = es.set j (f e) := by
  apply List.ext_getElem?
  intro q
  rw [List.getElem?_modify, List.getElem?_set]
  by_cases hq : j = q
  · subst hq
    obtain ⟨h1, h2⟩ := List.getElem?_eq_some_iff.1 h
    simp [h1, h2]
  · simp [hq]
theorem lo_mapUpdate (hκ : KeyIs dk κ) {t : T} (hu : P.underlying xT = some (.map kT eT)) (hk : P.underlying kT = some dk) (hx : ρ x = .own i (.map (some b))) (hi : hp[i]? = some (.mpx b (mkeys κ l) o)) (hy : ρ y = .c (.lit (κ k))) (hz : ∀ M u, RA M (ρ z) u → RT M t u)
    (ho : o = none ∨ (mget k l).isSome = true) (h : K (.c (.lit undef)) (hp.set i (.mpx b (mkeys κ (mput k t l)) o))) : LO P F ⟨d, .mapUpdate xT x y z, ty, pos, aft, g⟩ ρ hp K := by
  refine ⟨fun M e w he hh => ?_⟩
  have h1 := he x (by first | (simp [Op.operands]; done) | simp [Op.operands, Call.operands])
  rw [hx] at h1
  simp only [RA] at h1
  have h2 := he y (by first | (simp [Op.operands]; done) | simp [Op.operands, Call.operands])
  rw [hy] at h2
  simp only [RA, RT] at h2
  have h3 := hz M _ (he z (by first | (simp [Op.operands]; done) | simp [Op.operands, Call.operands]))
  obtain ⟨es, clock, hb, hkeys, hvals, hstm, hst⟩ := hh.at_ i _ hi
  have hkeys' : es.map (·.key) = l.map (fun p => κ p.1) := by rw [hkeys]; simp [mkeys]
  have hvals' : RTs M (l.map (·.2)) (es.map (·.val)) := by simpa [mkeys, Function.comp_def] using hvals
  have hlt : b < w.heap.size := (Array.getElem?_eq_some_iff.1 hb).1
  have hil : i < hp.length := (List.getElem?_eq_some_iff.1 hi).1
  obtain ⟨es', clock', hrun, hke, hva, hsm⟩ : ∃ (es' : List MapEntry) (clock' : Nat), (execOp e ⟨d, .mapUpdate xT x y z, ty, pos, aft, g⟩).run P w = .ok .skip { w with heap := w.heap.setIfInBounds b (.map es'.toArray clock') } ∧ es'.map (·.key) = (mkeys κ (mput k t l)).map (·.1) ∧ RTs M ((mkeys κ (mput k t l)).map (·.2)) (es'.map (·.val)) ∧ Stm es' clock' ∧ ∀ s ∈ o, s = (es'.map (·.born), clock') := by
    rcases find_keys hκ k l es 0 hkeys' with ⟨f1, f2, f3⟩ | ⟨j, e', t', f1, f2, f3, f4, f5⟩
    · refine ⟨es ++ [⟨κ k, e z, clock⟩], clock + 1, ?_, ?_, ?_, ⟨?_, ?_⟩, ?_⟩
      · simp [execOp, Instr.mapUpdate, h1.1, h2, run_underlying hu, MapKept.run_getObj_map hb, MapKept.run_checkKey hk (hκ.is k), MapKept.run_findKey hk f1, MapKept.run_setObj_map _ hb]
      · rw [f3]; simp [mkeys, hkeys']
      · rw [f3]
        have : RTs M (l.map (·.2) ++ [t]) (es.map (·.val) ++ [e z]) := hvals'.app (by simp only [RTs]; exact ⟨_, _, rfl, h3, rfl⟩)
        simpa [mkeys, Function.comp_def] using this
      · rw [List.map_append, List.nodup_append]
        refine ⟨hstm.1, by simp, fun a ha b hb => ?_⟩
        obtain ⟨x, hx, rfl⟩ := List.mem_map.1 ha
        have := hstm.2 x hx
        simp only [List.map_cons, List.map_nil, List.mem_singleton] at hb
        omega
      · intro x hx
        rcases List.mem_append.1 hx with hx | hx
        · have := hstm.2 x hx; omega
        · rw [List.mem_singleton.1 hx]; simp only; omega
      · rcases ho with rfl | ho
        · intro s hs; cases hs
        · rw [f2] at ho; cases ho
    · have hek : e'.key = κ k := by
        have := congrArg (fun l => l[j]?) hkeys'
        simp only [List.getElem?_map, f2, f3, Option.map_some, Option.some.injEq] at this
        exact this
      have hjl : j < es.length := (List.getElem?_eq_some_iff.1 f2).1
      have hbo : (es.set j ⟨κ k, e z, e'.born⟩).map (·.born) = es.map (·.born) := by
        obtain ⟨hj1, hj2⟩ := List.getElem?_eq_some_iff.1 f2
        rw [List.map_set, show e'.born = (es.map (·.born))[j]'(by simpa using hj1) by rw [List.getElem_map, hj2]]
        exact List.set_getElem_self _
      refine ⟨es.set j ⟨κ k, e z, e'.born⟩, clock, ?_, ?_, ?_, ⟨by rw [hbo]; exact hstm.1, ?_⟩, by rw [hbo]; exact hst⟩
      · have hm := set_modify es j (fun q => { q with key := κ k, val := e z }) f2
        have hge : es[j]? = some e' := f2
        simp [execOp, Instr.mapUpdate, h1.1, h2, run_underlying hu, MapKept.run_getObj_map hb, MapKept.run_checkKey hk (hκ.is k), MapKept.run_findKey hk f1, hge, hek, run_stays (hκ.is k), MapKept.run_setObj_map _ hb, hm]
      · rw [f5]
        simp only [mkeys, List.map_set, List.map_map]
        rw [hkeys']
        rfl
      · rw [f5]
        have := RTs.set j hvals' h3
        simpa [mkeys, Function.comp_def, List.map_set] using this
      · intro x hx
        have hx2 : x.born ∈ es.map (·.born) := by rw [← hbo]; exact List.mem_map.2 ⟨x, hx, rfl⟩
        obtain ⟨y, hy, hyx⟩ := List.mem_map.1 hx2
        have := hstm.2 y hy
        omega
  rw [hrun]
  refine ⟨M, _, _, h, Ext.refl _ _, ?_, by simp only [RA, RT]⟩
  refine hh.step i rfl rfl rfl (by simp) (fun c hc hne => ?_) (Ext.refl _ _) (fun p v h1 h2 => by rw [h2] at h1; cases h1) (fun j hj => by rw [List.getElem?_set_ne (Ne.symm hj)]) (fun x' hx' => ?_)
  · have : c ≠ b := fun e => hne _ hi (by rw [e]; rfl)
    simp [Array.getElem?_setIfInBounds, Ne.symm this]
  · rw [List.getElem?_set_self hil] at hx'
    obtain rfl : Blk.mpx b (mkeys κ (mput k t l)) o = x' := by injection hx'
    exact ⟨⟨es', clock', by simp [Array.getElem?_setIfInBounds, hlt], hke, hva, hsm⟩, fun b' hb' => .inl ⟨_, hi, hb'⟩⟩
theorem zMm {t : TypeId} {n : Nat} {hp' : Nat → List Blk} (h : ∀ b, K (.own n (.map (some b))) (hp' b)) (hn : lenU hp = some n := by exact rfl) (hf : ∀ b, evl (hp ++ [.mp b []]) = some (hp' b) := by exact fun _ => rfl) : LO P F ⟨d, .makeMap t none, ty, pos, aft, g⟩ ρ hp K :=
  lo_makeMap fun b => by rw [← evl_eq (hf b), ← lenU_eq hn]; exact h b
def isMap (P : Program) (t : TypeId) : Option (TypeId × TypeId) := match P.underlying t with | some (.map k e) => some (k, e) | _ => none
theorem isMap_eq {t : TypeId} (h : isMap P t = some (kT, eT)) : P.underlying t = some (.map kT eT) := by
  unfold isMap at h
  split at h
  · rename_i h'
    injection h with h
    injection h with h1 h2
    rw [h', h1, h2]
  · cases h
theorem zLks (kT eT : TypeId) {s : ByteArray} {l : List (ByteArray × T)} {t : T} (ht : (mget s l).getD (.lit z0) = t) (h : K (.c t) hp) (hL : TabOk P L := by exact tok) (hu : isMap P xT = some (kT, eT) := by kernel_rfl) (hk : P.underlying kT = some .string := by kernel_rfl) (hte : L.look eT = some te := by exact rfl) (hz : te.zero = [z0] := by exact rfl) (ha : te.agg = false := by exact rfl) (hx : ρ x = .own i (.map (some b)) := by exact rfl) (hi : hp[i]? = some (.mpx b (mkeys Value.string l) o) := by exact rfl) (hy : ρ y = .c (.lit (.string s)) := by exact rfl) :
    LO P F ⟨d, .lookup xT x y false, ty, pos, aft, g⟩ ρ hp K := lo_lookup keyStr hL (isMap_eq hu) hk hte hz ha hx hi hy (by rw [ht]; exact h)
theorem zLki (kT eT : TypeId) {s : Int} {l : List (Int × T)} {t : T} (ht : (mget s l).getD (.lit z0) = t) (h : K (.c t) hp) (hL : TabOk P L := by exact tok) (hu : isMap P xT = some (kT, eT) := by kernel_rfl) (hk : P.underlying kT = some (.int .i64) := by kernel_rfl) (hte : L.look eT = some te := by exact rfl) (hz : te.zero = [z0] := by exact rfl) (ha : te.agg = false := by exact rfl) (hx : ρ x = .own i (.map (some b)) := by exact rfl) (hi : hp[i]? = some (.mpx b (mkeys (Value.int .i64) l) o) := by exact rfl) (hy : ρ y = .c (.lit (.int .i64 s)) := by exact rfl) :
    LO P F ⟨d, .lookup xT x y false, ty, pos, aft, g⟩ ρ hp K := lo_lookup (keyInt .i64) hL (isMap_eq hu) hk hte hz ha hx hi hy (by rw [ht]; exact h)
theorem zUps (kT eT : TypeId) {s : ByteArray} {l : List (ByteArray × T)} {t : T} {hp' : List Blk} (h : K (.c (.lit undef)) hp') (hu : isMap P xT = some (kT, eT) := by kernel_rfl) (hk : P.underlying kT = some .string := by kernel_rfl) (hx : ρ x = .own i (.map (some b)) := by exact rfl) (hi : hp[i]? = some (.mp b (mkeys Value.string l)) := by exact rfl) (hy : ρ y = .c (.lit (.string s)) := by exact rfl) (hv : ρ z = .c t := by exact rfl) (hf : evl (hp.set i (.mp b (mkeys Value.string (mput s t l)))) = some hp' := by exact rfl) :
    LO P F ⟨d, .mapUpdate xT x y z, ty, pos, aft, g⟩ ρ hp K := lo_mapUpdate keyStr (isMap_eq hu) hk hx hi hy (fun M u h => by rw [hv] at h; simpa only [RA] using h) (.inl rfl) (by rw [← evl_eq hf]; exact h)
theorem zUpi (kT eT : TypeId) {s : Int} {l : List (Int × T)} {t : T} {hp' : List Blk} (h : K (.c (.lit undef)) hp') (hu : isMap P xT = some (kT, eT) := by kernel_rfl) (hk : P.underlying kT = some (.int .i64) := by kernel_rfl) (hx : ρ x = .own i (.map (some b)) := by exact rfl) (hi : hp[i]? = some (.mp b (mkeys (Value.int .i64) l)) := by exact rfl) (hy : ρ y = .c (.lit (.int .i64 s)) := by exact rfl) (hv : ρ z = .c t := by exact rfl) (hf : evl (hp.set i (.mp b (mkeys (Value.int .i64) (mput s t l)))) = some hp' := by exact rfl) :
    LO P F ⟨d, .mapUpdate xT x y z, ty, pos, aft, g⟩ ρ hp K := lo_mapUpdate (keyInt .i64) (isMap_eq hu) hk hx hi hy (fun M u h => by rw [hv] at h; simpa only [RA] using h) (.inl rfl) (by rw [← evl_eq hf]; exact h)
end
end Go.Proofs.Ytnkafjkcjpajgaa
namespace Go.Proofs.Ytnkafjkcjpajgaa
open Go.RowKit
section
variable {P : Program} {F : Frm} {L : Tab} {d : Option Tmp} {ty : TypeId} {pos : String} {aft : Array Edge} {g : Option (Nat × Bool)} {ρ : Operand → AV} {hp : List Blk} {K : AV → List Blk → Prop}
theorem lo_box_frz {t : TypeId} {x : Operand} {v : AV} {ts : List T} (hv : ρ x = v) (h1 : allOne (cellsA v) = true) (hz : Rzs [] (cellsA v) ts) (h : K (.c (.pin ts 0)) hp) : LO P F ⟨d, .box t x, ty, pos, aft, g⟩ ρ hp K := by
  refine ⟨fun M e w he hh => ?_⟩
  have hx := he x (by first | (simp [Op.operands]; done) | simp [Op.operands, Call.operands])
  rw [hv] at hx
  obtain ⟨hc, ho⟩ := cells_of hx h1
  have : (execOp e ⟨d, .box t x, ty, pos, aft, g⟩).run P w = .ok (.value (.pointer (some ⟨w.heap.size, 0, none⟩))) (w.alloc (.cells (e x).cells t)) := by
    simp [execOp, Instr.box, newVar, newRow]
  rw [this]
  have hyt := cls_sound _ _ _ hz hc
  have hb : Below w.heap.size w (w.alloc (.cells (e x).cells t)) := (Below.refl _ _).alloc (Nat.le_refl _) _
  have hm0 := hh.mem.below hb
  have hM := frz_ext (M := M) w.heap.size (w.alloc (.cells (e x).cells t))
  refine ⟨frz M w.heap.size (w.alloc (.cells (e x).cells t)), _, hp, h, (hM.low hh.frm.size), hh.below hb hM (frz_ok hm0 _), ?_⟩
  simp only [RA, RT]
  refine ⟨⟨w.heap.size, 0, none⟩, (e x).cells.toList, by rw [box_add], fun j u hj => ?_, RTs.mono hM.sub _ _ hyt⟩
  have hadd : (⟨w.heap.size, 0, none⟩ : Addr).add j = ⟨w.heap.size, j, none⟩ := by rw [box_add]; simp
  rw [hadd]
  refine frz_new (mem_fresh hh.mem (Nat.le_refl _)) (Nat.le_refl _) ?_ (ho u (List.mem_of_getElem? hj))
  rw [World.cell?_alloc_new]
  simpa using hj
theorem zBf {t : TypeId} {x : Operand} {v : AV} {cs : List AV} {ts : List T} (h : K (.c (.pin ts 0)) hp) (hv : fc (ρ x) = some v := by exact rfl) (hc : evl (cellsA v) = some cs := by exact rfl) (h1 : allOne cs = true := by first | exact rfl | assumption) (hz : Rzs [] cs ts := by repeat (first | exact rzs_nil | apply rzs_cons | exact rz_c | exact rz_nil rfl | apply rz_agg | apply rz_fn | apply rz_tup)) : LO P F ⟨d, .box t x, ty, pos, aft, g⟩ ρ hp K :=
  lo_box_frz (fc_eq hv) (by rw [← evl_eq hc]; exact h1) (by rw [← evl_eq hc]; exact hz) h
end
end Go.Proofs.Ytnkafjkcjpajgaa
namespace Go.Proofs.Ytnkafjkcjpajgaa
open Go.RowKit
structure Hold (G : Prop) : Prop where
  out : G
/-- operations and control, asq far asq they are plain -/
theorem gG {G G' : Prop} (h : G') (e : Hold G' → G := by
    intro h
    first | refine zNil ?_ | refine zOp ?_ | refine zOpn ?_ | refine zNo ?_ | refine zNon ?_ | refine zUn ?_ | refine zUnn ?_ | refine zYes ?_ | refine zYesn ?_ | (refine zkL ?_; first | refine zL1 ?_ | refine zL2 ?_ | refine zL3 ?_ | refine zLp ?_) | refine zM ?_ | (refine zkF ?_; first | refine zF1 ?_ | refine zF2 ?_ | refine zF3 ?_) | refine zA ?_ | (refine zkB ?_; first | refine zC5 ?_ | refine zC6 ?_ | refine zC1 ?_ | refine zC2 ?_ | refine zC3 ?_ | refine zC4 ?_ | refine zS5 ?_ | refine zS6 ?_ | refine zS1 ?_ | refine zS2 ?_ | refine zS3 ?_ | refine zS4 ?_ | refine zInc ?_ | refine zQ1 ?_ | refine zQ2 ?_ | refine zQ3 ?_ | refine zQ4 ?_ | refine zQ5 ?_ | refine zQ6 ?_) | (refine zkI ?_; first | refine zN3 ?_ | refine zN4 ?_) | refine zS ?_ | refine zPt ?_ | refine zPf ?_ | refine zE ?_ | refine zEA ?_ | refine zNot ?_ | refine zBd ?_ | refine zFn ?_ | refine zK1 ?_ | refine zK2 ?_ | refine zBs ?_ | refine ac_seq ?_ | refine ac_block ?_ | refine ac_region ?_ | refine ac_skip ?_ | refine ac_exit ?_ | refine ac_ret ?_ | refine zT ?_ | refine zF ?_
    repeat (first | refine zNil ?_ | refine zOp ?_ | refine zOpn ?_ | refine zNo ?_ | refine zNon ?_ | refine zUn ?_ | refine zUnn ?_ | refine zYes ?_ | refine zYesn ?_ | (refine zkL ?_; first | refine zL1 ?_ | refine zL2 ?_ | refine zL3 ?_ | refine zLp ?_) | refine zM ?_ | (refine zkF ?_; first | refine zF1 ?_ | refine zF2 ?_ | refine zF3 ?_) | refine zA ?_ | (refine zkB ?_; first | refine zC5 ?_ | refine zC6 ?_ | refine zC1 ?_ | refine zC2 ?_ | refine zC3 ?_ | refine zC4 ?_ | refine zS5 ?_ | refine zS6 ?_ | refine zS1 ?_ | refine zS2 ?_ | refine zS3 ?_ | refine zS4 ?_ | refine zInc ?_ | refine zQ1 ?_ | refine zQ2 ?_ | refine zQ3 ?_ | refine zQ4 ?_ | refine zQ5 ?_ | refine zQ6 ?_) | (refine zkI ?_; first | refine zN3 ?_ | refine zN4 ?_) | refine zS ?_ | refine zPt ?_ | refine zPf ?_ | refine zE ?_ | refine zEA ?_ | refine zNot ?_ | refine zBd ?_ | refine zFn ?_ | refine zK1 ?_ | refine zK2 ?_ | refine zBs ?_ | refine ac_seq ?_ | refine ac_block ?_ | refine ac_region ?_ | refine ac_skip ?_ | refine ac_exit ?_ | refine ac_ret ?_ | refine zT ?_ | refine zF ?_)
    exact h.out) : G := e ⟨h⟩
/-- the same, but no rows that are written out -/
theorem gX {G G' : Prop} (h : G') (e : Hold G' → G := by
    intro h
    first | refine zNil ?_ | refine zOp ?_ | refine zOpn ?_ | refine zNo ?_ | refine zNon ?_ | refine zUn ?_ | refine zUnn ?_ | refine zYes ?_ | refine zYesn ?_ | (refine zkL ?_; first | refine zL1 ?_ | refine zL2 ?_ | refine zL3 ?_ | refine zLp ?_) | refine zM ?_ | (refine zkF ?_; first | refine zF1 ?_ | refine zF2 ?_ | refine zF3 ?_) | refine zA ?_ | (refine zkB ?_; first | refine zC5 ?_ | refine zC6 ?_ | refine zC1 ?_ | refine zC2 ?_ | refine zC3 ?_ | refine zC4 ?_ | refine zS5 ?_ | refine zS6 ?_ | refine zS1 ?_ | refine zS2 ?_ | refine zS3 ?_ | refine zS4 ?_ | refine zInc ?_ | refine zQ1 ?_ | refine zQ2 ?_ | refine zQ3 ?_ | refine zQ4 ?_ | refine zQ5 ?_ | refine zQ6 ?_) | (refine zkI ?_; first | refine zN3 ?_ | refine zN4 ?_) | refine zS ?_ | refine zPt ?_ | refine zPf ?_ | refine zE ?_ | refine zEA ?_ | refine zNot ?_ | refine zBd ?_ | refine zFn ?_ | refine zK1 ?_ | refine zK2 ?_ | refine ac_seq ?_ | refine ac_block ?_ | refine ac_region ?_ | refine ac_skip ?_ | refine ac_exit ?_ | refine ac_ret ?_ | refine zT ?_ | refine zF ?_
    repeat (first | refine zNil ?_ | refine zOp ?_ | refine zOpn ?_ | refine zNo ?_ | refine zNon ?_ | refine zUn ?_ | refine zUnn ?_ | refine zYes ?_ | refine zYesn ?_ | (refine zkL ?_; first | refine zL1 ?_ | refine zL2 ?_ | refine zL3 ?_ | refine zLp ?_) | refine zM ?_ | (refine zkF ?_; first | refine zF1 ?_ | refine zF2 ?_ | refine zF3 ?_) | refine zA ?_ | (refine zkB ?_; first | refine zC5 ?_ | refine zC6 ?_ | refine zC1 ?_ | refine zC2 ?_ | refine zC3 ?_ | refine zC4 ?_ | refine zS5 ?_ | refine zS6 ?_ | refine zS1 ?_ | refine zS2 ?_ | refine zS3 ?_ | refine zS4 ?_ | refine zInc ?_ | refine zQ1 ?_ | refine zQ2 ?_ | refine zQ3 ?_ | refine zQ4 ?_ | refine zQ5 ?_ | refine zQ6 ?_) | (refine zkI ?_; first | refine zN3 ?_ | refine zN4 ?_) | refine zS ?_ | refine zPt ?_ | refine zPf ?_ | refine zE ?_ | refine zEA ?_ | refine zNot ?_ | refine zBd ?_ | refine zFn ?_ | refine zK1 ?_ | refine zK2 ?_ | refine ac_seq ?_ | refine ac_block ?_ | refine ac_region ?_ | refine ac_skip ?_ | refine ac_exit ?_ | refine ac_ret ?_ | refine zT ?_ | refine zF ?_)
    exact h.out) : G := e ⟨h⟩
/-- operations alone -/
theorem gO {G G' : Prop} (h : G') (e : Hold G' → G := by
    intro h
    first | refine zNil ?_ | refine zOp ?_ | refine zOpn ?_ | refine zNo ?_ | refine zNon ?_ | refine zUn ?_ | refine zUnn ?_ | refine zYes ?_ | refine zYesn ?_ | (refine zkL ?_; first | refine zL1 ?_ | refine zL2 ?_ | refine zL3 ?_ | refine zLp ?_) | refine zM ?_ | (refine zkF ?_; first | refine zF1 ?_ | refine zF2 ?_ | refine zF3 ?_) | refine zA ?_ | (refine zkB ?_; first | refine zC5 ?_ | refine zC6 ?_ | refine zC1 ?_ | refine zC2 ?_ | refine zC3 ?_ | refine zC4 ?_ | refine zS5 ?_ | refine zS6 ?_ | refine zS1 ?_ | refine zS2 ?_ | refine zS3 ?_ | refine zS4 ?_ | refine zInc ?_ | refine zQ1 ?_ | refine zQ2 ?_ | refine zQ3 ?_ | refine zQ4 ?_ | refine zQ5 ?_ | refine zQ6 ?_) | (refine zkI ?_; first | refine zN3 ?_ | refine zN4 ?_) | refine zS ?_ | refine zPt ?_ | refine zPf ?_ | refine zE ?_ | refine zEA ?_ | refine zNot ?_ | refine zBd ?_ | refine zFn ?_ | refine zK1 ?_ | refine zK2 ?_ | refine zBs ?_
    repeat (first | refine zNil ?_ | refine zOp ?_ | refine zOpn ?_ | refine zNo ?_ | refine zNon ?_ | refine zUn ?_ | refine zUnn ?_ | refine zYes ?_ | refine zYesn ?_ | (refine zkL ?_; first | refine zL1 ?_ | refine zL2 ?_ | refine zL3 ?_ | refine zLp ?_) | refine zM ?_ | (refine zkF ?_; first | refine zF1 ?_ | refine zF2 ?_ | refine zF3 ?_) | refine zA ?_ | (refine zkB ?_; first | refine zC5 ?_ | refine zC6 ?_ | refine zC1 ?_ | refine zC2 ?_ | refine zC3 ?_ | refine zC4 ?_ | refine zS5 ?_ | refine zS6 ?_ | refine zS1 ?_ | refine zS2 ?_ | refine zS3 ?_ | refine zS4 ?_ | refine zInc ?_ | refine zQ1 ?_ | refine zQ2 ?_ | refine zQ3 ?_ | refine zQ4 ?_ | refine zQ5 ?_ | refine zQ6 ?_) | (refine zkI ?_; first | refine zN3 ?_ | refine zN4 ?_) | refine zS ?_ | refine zPt ?_ | refine zPf ?_ | refine zE ?_ | refine zEA ?_ | refine zNot ?_ | refine zBd ?_ | refine zFn ?_ | refine zK1 ?_ | refine zK2 ?_ | refine zBs ?_)
    exact h.out) : G := e ⟨h⟩
/-- operations of a region that draws, asq long asq they only look -/
theorem gW {G G' : Prop} (h : G') (e : Hold G' → G := by
    intro h
    first | (apply w_q; (focus exact rfl); (focus exact rfl); focus (intro _; (first | (refine zkL ?_; first | refine zL1 ?_ | refine zL2 ?_ | refine zL3 ?_ | refine zLp ?_) | refine zM ?_ | (refine zkF ?_; first | refine zF1 ?_ | refine zF2 ?_ | refine zF3 ?_) | refine zA ?_ | (refine zkB ?_; first | refine zC5 ?_ | refine zC6 ?_ | refine zC1 ?_ | refine zC2 ?_ | refine zC3 ?_ | refine zC4 ?_ | refine zS5 ?_ | refine zS6 ?_ | refine zS1 ?_ | refine zS2 ?_ | refine zS3 ?_ | refine zS4 ?_ | refine zInc ?_ | refine zQ1 ?_ | refine zQ2 ?_ | refine zQ3 ?_ | refine zQ4 ?_ | refine zQ5 ?_ | refine zQ6 ?_) | (refine zkI ?_; first | refine zN3 ?_ | refine zN4 ?_) | refine zPt ?_ | refine zPf ?_ | refine zE ?_ | refine zEA ?_ | refine zNot ?_ | refine zBd ?_ | refine zBs ?_ | refine zFn ?_ | refine zK1 ?_ | refine zK2 ?_ | (refine zkI ?_; first | refine zN1 (fun _ => ?_) | refine zN2 (fun _ => ?_))); exact det_refl)) | (apply w_p; (focus exact rfl); (focus exact rfl); focus (intro _; (first | (refine zkL ?_; first | refine zL1 ?_ | refine zL2 ?_ | refine zL3 ?_ | refine zLp ?_) | refine zM ?_ | (refine zkF ?_; first | refine zF1 ?_ | refine zF2 ?_ | refine zF3 ?_) | refine zA ?_ | (refine zkB ?_; first | refine zC5 ?_ | refine zC6 ?_ | refine zC1 ?_ | refine zC2 ?_ | refine zC3 ?_ | refine zC4 ?_ | refine zS5 ?_ | refine zS6 ?_ | refine zS1 ?_ | refine zS2 ?_ | refine zS3 ?_ | refine zS4 ?_ | refine zInc ?_ | refine zQ1 ?_ | refine zQ2 ?_ | refine zQ3 ?_ | refine zQ4 ?_ | refine zQ5 ?_ | refine zQ6 ?_) | (refine zkI ?_; first | refine zN3 ?_ | refine zN4 ?_) | refine zPt ?_ | refine zPf ?_ | refine zE ?_ | refine zEA ?_ | refine zNot ?_ | refine zBd ?_ | refine zBs ?_ | refine zFn ?_ | refine zK1 ?_ | refine zK2 ?_ | (refine zkI ?_; first | refine zN1 (fun _ => ?_) | refine zN2 (fun _ => ?_))); exact det_refl)) | (apply w_un; (focus exact rfl); (focus exact rfl); (focus exact rfl); (focus exact rfl)) | (apply w_no; (focus exact rfl); (focus exact rfl); (focus exact rfl); (focus exact rfl); focus (first | rfl | assumption | exact neg_t (by assumption) | exact neg_f (by assumption))) | (apply w_qg; (focus exact rfl); (focus exact rfl); (focus exact rfl); (focus exact rfl); (focus (first | rfl | assumption | exact neg_t (by assumption) | exact neg_f (by assumption))); (focus (intro _; (first | (refine zkL ?_; first | refine zL1 ?_ | refine zL2 ?_ | refine zL3 ?_ | refine zLp ?_) | refine zM ?_ | (refine zkF ?_; first | refine zF1 ?_ | refine zF2 ?_ | refine zF3 ?_) | refine zA ?_ | (refine zkB ?_; first | refine zC5 ?_ | refine zC6 ?_ | refine zC1 ?_ | refine zC2 ?_ | refine zC3 ?_ | refine zC4 ?_ | refine zS5 ?_ | refine zS6 ?_ | refine zS1 ?_ | refine zS2 ?_ | refine zS3 ?_ | refine zS4 ?_ | refine zInc ?_ | refine zQ1 ?_ | refine zQ2 ?_ | refine zQ3 ?_ | refine zQ4 ?_ | refine zQ5 ?_ | refine zQ6 ?_) | (refine zkI ?_; first | refine zN3 ?_ | refine zN4 ?_) | refine zPt ?_ | refine zPf ?_ | refine zE ?_ | refine zEA ?_ | refine zNot ?_ | refine zBd ?_ | refine zBs ?_ | refine zFn ?_ | refine zK1 ?_ | refine zK2 ?_ | (refine zkI ?_; first | refine zN1 (fun _ => ?_) | refine zN2 (fun _ => ?_))); exact det_refl)))
    repeat (first | (apply w_q; (focus exact rfl); (focus exact rfl); focus (intro _; (first | (refine zkL ?_; first | refine zL1 ?_ | refine zL2 ?_ | refine zL3 ?_ | refine zLp ?_) | refine zM ?_ | (refine zkF ?_; first | refine zF1 ?_ | refine zF2 ?_ | refine zF3 ?_) | refine zA ?_ | (refine zkB ?_; first | refine zC5 ?_ | refine zC6 ?_ | refine zC1 ?_ | refine zC2 ?_ | refine zC3 ?_ | refine zC4 ?_ | refine zS5 ?_ | refine zS6 ?_ | refine zS1 ?_ | refine zS2 ?_ | refine zS3 ?_ | refine zS4 ?_ | refine zInc ?_ | refine zQ1 ?_ | refine zQ2 ?_ | refine zQ3 ?_ | refine zQ4 ?_ | refine zQ5 ?_ | refine zQ6 ?_) | (refine zkI ?_; first | refine zN3 ?_ | refine zN4 ?_) | refine zPt ?_ | refine zPf ?_ | refine zE ?_ | refine zEA ?_ | refine zNot ?_ | refine zBd ?_ | refine zBs ?_ | refine zFn ?_ | refine zK1 ?_ | refine zK2 ?_ | (refine zkI ?_; first | refine zN1 (fun _ => ?_) | refine zN2 (fun _ => ?_))); exact det_refl)) | (apply w_p; (focus exact rfl); (focus exact rfl); focus (intro _; (first | (refine zkL ?_; first | refine zL1 ?_ | refine zL2 ?_ | refine zL3 ?_ | refine zLp ?_) | refine zM ?_ | (refine zkF ?_; first | refine zF1 ?_ | refine zF2 ?_ | refine zF3 ?_) | refine zA ?_ | (refine zkB ?_; first | refine zC5 ?_ | refine zC6 ?_ | refine zC1 ?_ | refine zC2 ?_ | refine zC3 ?_ | refine zC4 ?_ | refine zS5 ?_ | refine zS6 ?_ | refine zS1 ?_ | refine zS2 ?_ | refine zS3 ?_ | refine zS4 ?_ | refine zInc ?_ | refine zQ1 ?_ | refine zQ2 ?_ | refine zQ3 ?_ | refine zQ4 ?_ | refine zQ5 ?_ | refine zQ6 ?_) | (refine zkI ?_; first | refine zN3 ?_ | refine zN4 ?_) | refine zPt ?_ | refine zPf ?_ | refine zE ?_ | refine zEA ?_ | refine zNot ?_ | refine zBd ?_ | refine zBs ?_ | refine zFn ?_ | refine zK1 ?_ | refine zK2 ?_ | (refine zkI ?_; first | refine zN1 (fun _ => ?_) | refine zN2 (fun _ => ?_))); exact det_refl)) | (apply w_un; (focus exact rfl); (focus exact rfl); (focus exact rfl); (focus exact rfl)) | (apply w_no; (focus exact rfl); (focus exact rfl); (focus exact rfl); (focus exact rfl); focus (first | rfl | assumption | exact neg_t (by assumption) | exact neg_f (by assumption))) | (apply w_qg; (focus exact rfl); (focus exact rfl); (focus exact rfl); (focus exact rfl); (focus (first | rfl | assumption | exact neg_t (by assumption) | exact neg_f (by assumption))); (focus (intro _; (first | (refine zkL ?_; first | refine zL1 ?_ | refine zL2 ?_ | refine zL3 ?_ | refine zLp ?_) | refine zM ?_ | (refine zkF ?_; first | refine zF1 ?_ | refine zF2 ?_ | refine zF3 ?_) | refine zA ?_ | (refine zkB ?_; first | refine zC5 ?_ | refine zC6 ?_ | refine zC1 ?_ | refine zC2 ?_ | refine zC3 ?_ | refine zC4 ?_ | refine zS5 ?_ | refine zS6 ?_ | refine zS1 ?_ | refine zS2 ?_ | refine zS3 ?_ | refine zS4 ?_ | refine zInc ?_ | refine zQ1 ?_ | refine zQ2 ?_ | refine zQ3 ?_ | refine zQ4 ?_ | refine zQ5 ?_ | refine zQ6 ?_) | (refine zkI ?_; first | refine zN3 ?_ | refine zN4 ?_) | refine zPt ?_ | refine zPf ?_ | refine zE ?_ | refine zEA ?_ | refine zNot ?_ | refine zBd ?_ | refine zBs ?_ | refine zFn ?_ | refine zK1 ?_ | refine zK2 ?_ | (refine zkI ?_; first | refine zN1 (fun _ => ?_) | refine zN2 (fun _ => ?_))); exact det_refl))))
    exact h.out) : G := e ⟨h⟩
end Go.Proofs.Ytnkafjkcjpajgaa
namespace Go.Proofs.Ytnkafjkcjpajgaa
open Go.RowKit
inductive V where
  | mk (kind num : Int) (text : ByteArray) (args : List V)
mutual
def V.ts : V → List T
  | .mk k n t l => [.lit (.int .i64 k), .lit (.int .i64 n), .lit (.string t), .row l.length 4 (V.all l)]
def V.all : List V → List T
  | [] => []
  | v :: r => v.ts ++ V.all r
end
theorem V.all_eq : ∀ l : List V, V.all l = l.flatMap V.ts
  | [] => rfl
  | v :: l => by rw [V.all, V.all_eq l]; rfl
theorem V.ts_len : ∀ v : V, v.ts.length = 4
  | .mk _ _ _ _ => rfl
def V.row (l : List V) : T := .row l.length 4 (V.all l)
def V.t (v : V) : T := .agg v.ts
mutual
def V.same : V → V → Bool
  | .mk k n t l, .mk k' n' t' l' => decide (k = k') && decide (n = n') && decide (t = t') && V.sames l l'
def V.sames : List V → List V → Bool
  | [], [] => true
  | v :: l, v' :: l' => v.same v' && V.sames l l'
  | _, _ => false
end
theorem V.at {l : List V} {k : Nat} {v : V} (h : l[k]? = some v) : ((V.all l).drop (k * 4)).take 4 = v.ts := by rw [V.all_eq]; exact flat_at V.ts 4 V.ts_len h
/-- all pairs up to the first that is not alike -/
def eqBy {α β : Type} (p : α → β → Bool) : List α → List β → Bool
  | [], [] => true
  | a :: l, b :: r => p a b && eqBy p l r
  | _, _ => false
theorem eqBy_len {α β : Type} {p : α → β → Bool} : ∀ {l : List α} {r : List β}, l.length ≠ r.length → eqBy p l r = false
  | [], [], h => absurd rfl h
  | [], _ :: _, _ => rfl
  | _ :: _, [], _ => rfl
  | a :: l, b :: r, h => by rw [eqBy, eqBy_len (by simpa using h), Bool.and_false]
theorem eqBy_step {α β : Type} {p : α → β → Bool} {l : List α} {r : List β} {k : Nat} {a : α} {b : β} (ha : l[k]? = some a) (hb : r[k]? = some b) : eqBy p (l.drop k) (r.drop k) = (p a b && eqBy p (l.drop (k + 1)) (r.drop (k + 1))) := by
  obtain ⟨h1, rfl⟩ := List.getElem?_eq_some_iff.1 ha
  obtain ⟨h2, rfl⟩ := List.getElem?_eq_some_iff.1 hb
  rw [List.drop_eq_getElem_cons h1, List.drop_eq_getElem_cons h2, eqBy]
set_option maxRecDepth 100000 in
set_option maxHeartbeats 2000000 in
theorem eqVals_af (p : V → V → Bool) (f : FuncId) (l r : List V) (hf : ∀ a ∈ l, ∀ b ∈ r, AF Try.prog f [a.t, b.t] (· = .lit (.bool (p a b)))) :
    AF Try.prog 108 [V.row l, V.row r, .fn (.func f) []] (· = .lit (.bool (eqBy p l r))) := by
  refine af_enter tok Try.func108 Try.ntmps108 Try.results108 rfl (by kernel_rfl) rfl rfl fun F hX => ?_
  repeat (first | refine gG ?_ | refine zN1 (fun hlen => ?_) | refine zN2 (fun hlen => ?_) | refine zAl (fun _ => ?_))
  refine x_cond rfl (fun h => ?_) (fun h => ?_)
  · repeat (first | refine gG ?_ | refine zN1 (fun hlen => ?_) | refine zN2 (fun hlen => ?_) | refine zAl (fun _ => ?_))
    first | refine zR ?_ | refine zQ ?_
    have : l.length ≠ r.length := by have := h; simp at this; omega
    rw [eqBy_len this]
    rfl
  · have hlr : l.length = r.length := by have := h; simp at this; omega
    repeat (first | refine gG ?_ | refine zN1 (fun hlen => ?_) | refine zN2 (fun hlen => ?_) | refine zAl (fun _ => ?_))
    refine x_loop [6, 7, 8, 9, 17, 18, 19, 20, 21, 22, 23, 24, 25, 26, 27, 28, 29, 30, 31] (fun k : Nat => [(17, .c (.lit (.int .i64 k)))]) (fun _ => []) (fun k => k ≤ l.length ∧ eqBy p l r = eqBy p (l.drop k) (r.drop k)) (fun k => l.length - k) 0 ⟨Nat.zero_le _, rfl⟩ ⟨rfl, trivial⟩ rfl fun k hk => ?_
    repeat (first | refine gG ?_ | refine zN1 (fun hlen => ?_) | refine zN2 (fun hlen => ?_) | refine zAl (fun _ => ?_))
    refine x_cond rfl (fun h => ?_) (fun h => ?_)
    · have hk' : k < l.length := by simpa using h
      obtain ⟨a, ha⟩ : ∃ a, l[k]? = some a := ⟨_, List.getElem?_eq_getElem hk'⟩
      obtain ⟨b, hb⟩ : ∃ b, r[k]? = some b := ⟨_, List.getElem?_eq_getElem (hlr ▸ hk')⟩
      have hp := hf a (List.mem_of_getElem? ha) b (List.mem_of_getElem? hb)
      have hstep : eqBy p (l.drop k) (r.drop k) = (p a b && eqBy p (l.drop (k + 1)) (r.drop (k + 1))) := eqBy_step ha hb
      repeat (first | refine gG ?_ | refine zN1 (fun hlen => ?_) | refine zN2 (fun hlen => ?_) | refine zAl (fun _ => ?_))
      refine lo_idx tok k rfl rfl rfl hk' rfl rfl rfl rfl ?_
      repeat (first | refine gG ?_ | refine zN1 (fun hlen => ?_) | refine zN2 (fun hlen => ?_) | refine zAl (fun _ => ?_))
      refine lo_load_pin tok rfl rfl rfl (V.at ha) (V.ts_len a) ?_
      obtain ⟨ka, na, ta, la⟩ := a
      obtain ⟨kb, nb, tb, lb⟩ := b
      repeat (first | refine gG ?_ | refine zN1 (fun hlen => ?_) | refine zN2 (fun hlen => ?_) | refine zAl (fun _ => ?_))
      refine lo_idx tok k rfl rfl rfl (hlr ▸ hk') rfl rfl rfl rfl ?_
      repeat (first | refine gG ?_ | refine zN1 (fun hlen => ?_) | refine zN2 (fun hlen => ?_) | refine zAl (fun _ => ?_))
      refine lo_load_pin tok rfl rfl rfl (V.at hb) (V.ts_len _) ?_
      repeat (first | refine gG ?_ | refine zN1 (fun hlen => ?_) | refine zN2 (fun hlen => ?_) | refine zAl (fun _ => ?_))
      refine zCallc (hp) ?_
      rintro _ rfl
      repeat (first | refine gG ?_ | refine zN1 (fun hlen => ?_) | refine zN2 (fun hlen => ?_) | refine zAl (fun _ => ?_))
      refine x_cond rfl (fun h => ?_) (fun h => ?_)
      · repeat (first | refine gG ?_ | refine zN1 (fun hlen => ?_) | refine zN2 (fun hlen => ?_) | refine zAl (fun _ => ?_))
        first | refine zR ?_ | refine zQ ?_
        have hq : p (.mk ka na ta la) (.mk kb nb tb lb) = false := by simpa using h
        rw [hk.2, hstep, hq]
        rfl
      · repeat (first | refine gG ?_ | refine zN1 (fun hlen => ?_) | refine zN2 (fun hlen => ?_) | refine zAl (fun _ => ?_))
        have hq : p (.mk ka na ta la) (.mk kb nb tb lb) = true := by simpa using h
        exact ⟨k + 1, ⟨hk', by rw [hk.2, hstep, hq, Bool.true_and]⟩, by omega, x_wkd 0 ⟨rfl, trivial⟩ rfl (by repeat (first | exact ag_refl | refine ag_upd rfl ?_ | refine ag_at rfl rfl ?_))⟩
    · have hk' : k = l.length := by have : ¬ k < l.length := by simpa using h
                                    omega
      repeat (first | refine gG ?_ | refine zN1 (fun hlen => ?_) | refine zN2 (fun hlen => ?_) | refine zAl (fun _ => ?_))
      first | refine zR ?_ | refine zQ ?_
      rw [hk.2, hk', List.drop_length, hlr, List.drop_length]
      rfl
theorem V.sames_eq : ∀ l r : List V, V.sames l r = eqBy V.same l r
  | [], [] => rfl
  | [], _ :: _ => rfl
  | _ :: _, [] => rfl
  | a :: l, b :: r => by rw [V.sames, eqBy, V.sames_eq l r]
mutual
def V.size : V → Nat
  | .mk _ _ _ l => V.sizes l + 1
def V.sizes : List V → Nat
  | [] => 0
  | v :: r => v.size + V.sizes r
end
theorem V.size_mem {v : V} : ∀ {l : List V}, v ∈ l → v.size ≤ V.sizes l
  | [], h => by simp at h
  | x :: l, h => by
    simp only [V.sizes]
    rcases List.mem_cons.1 h with rfl | h
    · omega
    · have := V.size_mem h; omega
theorem V.len_sizes : ∀ l : List V, l.length ≤ V.sizes l
  | [] => by simp [V.sizes]
  | .mk _ _ _ _ :: l => by have := V.len_sizes l; simp only [V.sizes, V.size, List.length_cons]; omega
theorem V.ind {P : V → Prop} (h : ∀ k n t l, (∀ v ∈ l, P v) → P (.mk k n t l)) : ∀ v, P v := by
  have : ∀ (N : Nat) (v : V), v.size ≤ N → P v := by
    intro N
    induction N with
    | zero => intro v hv; cases v; simp [V.size] at hv
    | succ N ih =>
      intro v hv
      cases v with
      | mk k n t l =>
        refine h k n t l fun x hx => ih x ?_
        have := V.size_mem hx
        simp only [V.size] at hv
        omega
  exact fun v => this v.size v (Nat.le_refl _)
theorem eqBy_refl {α : Type} {p : α → α → Bool} : ∀ {l : List α}, (∀ a ∈ l, p a a = true) → eqBy p l l = true
  | [], _ => rfl
  | a :: l, h => by rw [eqBy, h a (by simp), eqBy_refl fun a ha => h a (List.mem_cons_of_mem _ ha)]; rfl
theorem V.same_refl (v : V) : v.same v = true := by
  induction v using V.ind with
  | h k n t l ih => simp [V.same, V.sames_eq, eqBy_refl ih]
set_option maxRecDepth 100000 in
set_option maxHeartbeats 1000000 in
theorem sameValue_af (v : V) : ∀ v' : V, AF Try.prog 82 [v.t, v'.t] (· = .lit (.bool (v.same v'))) := by
  induction v using V.ind with
  | h k n t l ih =>
    rintro ⟨k', n', t', l'⟩
    have hcall := eqVals_af V.same 82 l l' (fun a ha b _ => ih a ha b)
    refine af_enter tok Try.func82 Try.ntmps82 Try.results82 rfl (by kernel_rfl) rfl rfl fun F hX => ?_
    cases d1 : decide (k = k')
    · repeat (first | refine gG ?_ | refine zBx (fun _ => ?_))
      first | refine zR ?_ | refine zQ ?_
      simp [V.same, d1, outT]
    cases d2 : decide (n = n')
    · repeat (first | refine gG ?_ | refine zBx (fun _ => ?_))
      first | refine zR ?_ | refine zQ ?_
      simp [V.same, d2, outT]
    cases d3 : decide (t = t')
    · repeat (first | refine gG ?_ | refine zBx (fun _ => ?_))
      first | refine zR ?_ | refine zQ ?_
      simp [V.same, d3, outT]
    repeat (first | refine gG ?_ | refine zBx (fun _ => ?_))
    refine zCall (hcall) ?_
    rintro _ rfl
    repeat (first | refine gG ?_ | refine zBx (fun _ => ?_))
    first | refine zR ?_ | refine zQ ?_
    simp [V.same, d1, d2, d3, V.sames_eq, outT]
end Go.Proofs.Ytnkafjkcjpajgaa
namespace Go.Proofs.Ytnkafjkcjpajgaa
open Go.RowKit
theorem V.all_app (l r : List V) : V.all (l ++ r) = V.all l ++ V.all r := by simp [V.all_eq]
theorem V.all_one (v : V) : V.all [v] = v.ts := by simp [V.all]
end Go.Proofs.Ytnkafjkcjpajgaa
namespace Go.Proofs.Ytnkafjkcjpajgaa
open Go.RowKit
/-- it is a bool -/
def Tell (t : T) : Prop := ∃ b : Bool, t = .lit (.bool b)
theorem nth {α : Type} {l : List α} {k : Nat} (h : k < l.length) : ∃ a, l[k]? = some a := ⟨_, List.getElem?_eq_getElem h⟩
def V.args : V → List V
  | .mk _ _ _ l => l
theorem V.sizes_app (l r : List V) : V.sizes (l ++ r) = V.sizes l + V.sizes r := by
  induction l with
  | nil => simp [V.sizes]
  | cons v l ih => simp only [List.cons_append, V.sizes, ih]; omega
theorem V.sizes_flat : ∀ l : List V, V.sizes (l.flatMap V.args) + l.length = V.sizes l
  | [] => rfl
  | .mk _ _ _ a :: l => by
    have := V.sizes_flat l
    simp only [List.flatMap_cons, V.args, V.sizes_app, V.sizes, V.size, List.length_cons]
    omega
theorem V.take_sizes (l : List V) (k : Nat) : V.sizes (l.take k) ≤ V.sizes l := by
  have := V.sizes_app (l.take k) (l.drop k)
  rw [List.take_append_drop] at this
  omega
theorem flat_snoc' {α β : Type} (f : α → List β) {l : List α} {k : Nat} {a : α} (h : l[k]? = some a) : (l.take (k + 1)).flatMap f = (l.take k).flatMap f ++ f a := by
  obtain ⟨h1, rfl⟩ := List.getElem?_eq_some_iff.1 h
  rw [List.take_succ_eq_append_getElem h1, List.flatMap_append]
  simp
end Go.Proofs.Ytnkafjkcjpajgaa
namespace Go.Proofs.Ytnkafjkcjpajgaa
open Go.RowKit
inductive Y where
  | mk (kind : Int) (name : ByteArray) (args : List Y)
mutual
def Y.ts : Y → List T
  | .mk k n l => [.lit (.int .i64 k), .lit (.string n), .row l.length 3 (Y.all l)]
def Y.all : List Y → List T
  | [] => []
  | v :: r => v.ts ++ Y.all r
end
theorem Y.all_eq : ∀ l : List Y, Y.all l = l.flatMap Y.ts
  | [] => rfl
  | v :: l => by rw [Y.all, Y.all_eq l]; rfl
theorem Y.ts_len : ∀ v : Y, v.ts.length = 3
  | .mk _ _ _ => rfl
def Y.row (l : List Y) : T := .row l.length 3 (Y.all l)
def Y.t (v : Y) : T := .agg v.ts
theorem Y.at {l : List Y} {k : Nat} {v : Y} (h : l[k]? = some v) : ((Y.all l).drop (k * 3)).take 3 = v.ts := by rw [Y.all_eq]; exact flat_at Y.ts 3 Y.ts_len h
theorem Y.all_app (l r : List Y) : Y.all (l ++ r) = Y.all l ++ Y.all r := by simp [Y.all_eq]
theorem Y.all_one (v : Y) : Y.all [v] = v.ts := by simp [Y.all]
mutual
def Y.size : Y → Nat
  | .mk _ n l => Y.sizes l + n.size + 1
def Y.sizes : List Y → Nat
  | [] => 0
  | v :: r => v.size + Y.sizes r
end
theorem Y.size_mem {v : Y} : ∀ {l : List Y}, v ∈ l → v.size ≤ Y.sizes l
  | [], h => by simp at h
  | x :: l, h => by
    simp only [Y.sizes]
    rcases List.mem_cons.1 h with rfl | h
    · omega
    · have := Y.size_mem h; omega
theorem Y.sizes_sum : ∀ l : List Y, Y.sizes l = (l.map Y.size).sum
  | [] => rfl
  | v :: l => by simp [Y.sizes, Y.sizes_sum l]
instance : Inhabited Y := ⟨.mk 0 ⟨#[]⟩ []⟩
theorem Y.len_sizes : ∀ l : List Y, l.length ≤ Y.sizes l
  | [] => by simp [Y.sizes]
  | .mk _ _ _ :: l => by have := Y.len_sizes l; simp only [Y.sizes, Y.size, List.length_cons]; omega
theorem Y.ind {P : Y → Prop} (h : ∀ k n l, (∀ v ∈ l, P v) → P (.mk k n l)) : ∀ v, P v := by
  have : ∀ (N : Nat) (v : Y), v.size ≤ N → P v := by
    intro N
    induction N with
    | zero => intro v hv; cases v; simp [Y.size] at hv
    | succ N ih =>
      intro v hv
      cases v with
      | mk k n l =>
        refine h k n l fun x hx => ih x ?_
        have := Y.size_mem hx
        simp only [Y.size] at hv
        omega
  exact fun v => this _ v (Nat.le_refl _)
def Y.args : Y → List Y
  | .mk _ _ l => l
theorem Y.sizes_app (l r : List Y) : Y.sizes (l ++ r) = Y.sizes l + Y.sizes r := by
  induction l with
  | nil => simp [Y.sizes]
  | cons v l ih => simp only [List.cons_append, Y.sizes, ih]; omega
theorem Y.sizes_flat : ∀ l : List Y, Y.sizes (l.flatMap Y.args) + l.length ≤ Y.sizes l
  | [] => by simp [Y.sizes]
  | .mk _ _ a :: l => by
    have := Y.sizes_flat l
    simp only [List.flatMap_cons, Y.args, Y.sizes_app, Y.sizes, Y.size, List.length_cons]
    omega
theorem Y.take_sizes (l : List Y) (k : Nat) : Y.sizes (l.take k) ≤ Y.sizes l := by
  have := Y.sizes_app (l.take k) (l.drop k)
  rw [List.take_append_drop] at this
  omega
set_option maxRecDepth 100000 in
set_option maxHeartbeats 2000000 in
theorem typesSmall_af (l0 : List Y) (hv : Y.sizes l0 ≤ 1048576) : AF Try.prog 72 [Y.row l0] Tell := by
  have hl0 := Y.len_sizes l0
  have hz0 : T.row (0 + l0.length) 3 ([] ++ Y.all l0) = Y.row l0 := by simp [Y.row]
  refine af_enter tok Try.func72 Try.ntmps72 Try.results72 rfl (by kernel_rfl) rfl rfl fun F hX => ?_
  repeat (first | refine gX ?_ | refine zN1 (fun hlen => ?_) | refine zN2 (fun hlen => ?_) | refine zAl (fun _ => ?_) | refine zAp (fun _ => ?_))
  refine lo_bslice_own (ts := []) tok rfl rfl rfl rfl rfl rfl (by repeat (first | exact rzs_nil | apply rzs_cons | exact rz_c | exact rz_nil rfl | apply rz_agg | exact rz_own rfl | apply rz_fn | exact rz_ptr rfl | apply rz_tup)) (fun _ => ?_)
  repeat (first | refine gG ?_ | refine zN1 (fun hlen => ?_) | refine zN2 (fun hlen => ?_) | refine zAl (fun _ => ?_) | refine zAp (fun _ => ?_))
  refine ac_wk (wk_frz hX 3 rfl rfl rfl rfl) ?_
  refine x_loop [2, 3, 4, 5, 6, 8, 12, 13, 14, 15, 16, 17, 18, 19, 20, 21, 22, 23, 24, 25, 26, 27, 28, 29, 30, 31, 32, 33, 34, 35, 36, 37, 38] (fun y : List Y × Nat × Nat => [(3, .c (Y.row y.1)), (4, .c (.lit (.int .i64 (y.2.1 : Nat)))), (5, .c (.lit (.int .i64 (y.2.2 : Nat))))]) (fun _ => [.dead])
    (fun y => Y.sizes y.1 ≤ 1048576 ∧ y.2.1 ≤ 1000 ∧ y.2.2 ≤ 101) (fun y => 102 - y.2.2) (l0, 0, 0) ⟨hv, by simp, by simp⟩ ⟨congrArg AV.c hz0, rfl, rfl, trivial⟩ rfl ?_
  rintro ⟨l, n, dp⟩ ⟨hl, hn, hdp⟩
  dsimp only at hl hn hdp ⊢
  have hll := Y.len_sizes l
  repeat (first | refine gG ?_ | refine zN1 (fun hlen => ?_) | refine zN2 (fun hlen => ?_) | refine zAl (fun _ => ?_) | refine zAp (fun _ => ?_))
  refine x_cond rfl (fun h => ?_) (fun h => ?_)
  · repeat (first | refine gG ?_ | refine zN1 (fun hlen => ?_) | refine zN2 (fun hlen => ?_) | refine zAl (fun _ => ?_) | refine zAp (fun _ => ?_))
    refine lo_add rfl rfl (r := ((n + l.length : Nat) : Int)) (by rw [IntWalk.i64_in _ (by omega)]; omega) ?_
    cases d1 : decide ((100 : Int) < (dp : Int))
    · cases d2 : decide ((1000 : Int) < ((n + l.length : Nat) : Int))
      · have hd1 : ¬ (100 : Int) < (dp : Int) := of_decide_eq_false d1
        have hd2 : ¬ (1000 : Int) < ((n + l.length : Nat) : Int) := of_decide_eq_false d2
        repeat (first | refine gG ?_ | refine zN1 (fun hlen => ?_) | refine zN2 (fun hlen => ?_) | refine zAl (fun _ => ?_) | refine zAp (fun _ => ?_))
        refine x_own 6 69 3 rfl rfl rfl rfl rfl ?_
        refine x_loop [6, 8, 29, 30, 31, 32, 33, 34, 35, 36, 37] (fun y : Nat × Value => [(29, .c (.lit (.int .i64 (y.1 : Nat)))), (6, .own 1 y.2)]) (fun y => [.dead, .row y.2 69 3 ((l.take y.1).flatMap Y.args).length (Y.all ((l.take y.1).flatMap Y.args))])
          (fun y => y.1 ≤ l.length) (fun y => l.length - y.1) (0, .slice none 0 0) (Nat.zero_le _) ⟨rfl, rfl, trivial⟩ rfl ?_
        rintro ⟨k, v⟩ hk
        dsimp only at hk ⊢
        repeat (first | refine gG ?_ | refine zN1 (fun hlen => ?_) | refine zN2 (fun hlen => ?_) | refine zAl (fun _ => ?_) | refine zAp (fun _ => ?_))
        refine x_cond rfl (fun h => ?_) (fun h => ?_)
        · have hk' : k < l.length := by simpa using h
          obtain ⟨a, ha⟩ := nth hk'
          have hsn := flat_snoc' Y.args ha
          have hsz : ((l.take k).flatMap Y.args).length + a.args.length ≤ 1048576 := by
            have h1 := Y.len_sizes ((l.take (k + 1)).flatMap Y.args)
            have h2 := Y.sizes_flat (l.take (k + 1))
            have h3 := Y.take_sizes l (k + 1)
            rw [hsn] at h1 h2
            rw [List.length_append] at h1
            omega
          repeat (first | refine gG ?_ | refine zN1 (fun hlen => ?_) | refine zN2 (fun hlen => ?_) | refine zAl (fun _ => ?_) | refine zAp (fun _ => ?_))
          refine zIx (k) (hk') ?_
          repeat (first | refine gG ?_ | refine zN1 (fun hlen => ?_) | refine zN2 (fun hlen => ?_) | refine zAl (fun _ => ?_) | refine zAp (fun _ => ?_))
          refine zEl (Y.at ha) (Y.ts_len a) ?_
          obtain ⟨ka, ta, la⟩ := a
          simp only [Y.args] at hsz hsn
          repeat (first | refine gG ?_ | refine zN1 (fun hlen => ?_) | refine zN2 (fun hlen => ?_) | refine zAl (fun _ => ?_) | refine zAp (fun _ => ?_))
          exact ⟨(k + 1, _), hk', by simp only; omega, x_wkd 2 ⟨rfl, rfl, trivial⟩ (by simp only [hsn, Y.all_app, List.length_append]; rfl) (by repeat (first | exact ag_refl | refine ag_upd rfl ?_ | refine ag_at rfl rfl ?_))⟩
        · have hk' : k = l.length := by have : ¬ k < l.length := by simpa using h
                                        omega
          subst hk'
          repeat (first | refine gG ?_ | refine zN1 (fun hlen => ?_) | refine zN2 (fun hlen => ?_) | refine zAl (fun _ => ?_) | refine zAp (fun _ => ?_))
          refine ⟨(l.flatMap Y.args, n + l.length, dp + 1), ⟨?_, by simp only; omega, by simp only; omega⟩, by simp only; omega, (wk_frz hX 3 rfl rfl rfl rfl).trans (x_wkd 1 ⟨?_, rfl, rfl, trivial⟩ rfl (by repeat (first | exact ag_refl | refine ag_upd rfl ?_ | refine ag_at rfl rfl ?_)))⟩
          · have := Y.sizes_flat l; simp only; omega
          · simp only [List.take_length]; rfl
      · repeat (first | refine gG ?_ | refine zN1 (fun hlen => ?_) | refine zN2 (fun hlen => ?_) | refine zAl (fun _ => ?_) | refine zAp (fun _ => ?_))
        first | refine zR ?_ | refine zQ ?_
        exact ⟨_, rfl⟩
    · repeat (first | refine gG ?_ | refine zN1 (fun hlen => ?_) | refine zN2 (fun hlen => ?_) | refine zAl (fun _ => ?_) | refine zAp (fun _ => ?_))
      first | refine zR ?_ | refine zQ ?_
      exact ⟨_, rfl⟩
  · repeat (first | refine gG ?_ | refine zN1 (fun hlen => ?_) | refine zN2 (fun hlen => ?_) | refine zAl (fun _ => ?_) | refine zAp (fun _ => ?_))
    first | refine zR ?_ | refine zQ ?_
    exact ⟨_, rfl⟩
end Go.Proofs.Ytnkafjkcjpajgaa
