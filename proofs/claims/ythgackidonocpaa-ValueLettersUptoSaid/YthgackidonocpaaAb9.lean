/-
  Abstract states: the rules that a walk uses, each with the lists of the new state laid out.
-/
import Derived.Test.YthgackidonocpaaAb8
namespace Go.Proofs.Ythgackidonocpaa
open Go.RowKit

theorem neg_t {b : Bool} (h : b = false) : (!b) = true := by rw [h]; rfl
theorem neg_f {b : Bool} (h : b = true) : (!b) = false := by rw [h]; rfl
def evl {α : Type} : List α → Option (List α)
  | [] => some []
  | a :: l => match evl l with | some r => some (a :: r) | none => none
theorem evl_eq {α : Type} : ∀ {l r : List α}, evl l = some r → r = l
  | [], r, h => by simp only [evl, Option.some.injEq] at h; exact h.symm
  | a :: l, r, h => by
    simp only [evl] at h
    cases hl : evl l with
    | none => rw [hl] at h; cases h
    | some r' =>
      rw [hl] at h
      simp only [Option.some.injEq] at h
      rw [← h, evl_eq hl]
def lenU {α : Type} : List α → Option Nat
  | [] => some 0
  | _ :: l => match lenU l with | some n => some (n + 1) | none => none
theorem lenU_eq {α : Type} : ∀ {l : List α} {n : Nat}, lenU l = some n → n = l.length
  | [], n, h => by simp only [lenU, Option.some.injEq] at h; exact h.symm
  | a :: l, n, h => by
    simp only [lenU] at h
    cases hl : lenU l with
    | none => rw [hl] at h; cases h
    | some m =>
      rw [hl] at h
      simp only [Option.some.injEq] at h
      rw [← h, lenU_eq hl]; rfl

section
variable {P : Program} {F : Frm} {L : Tab} {d : Option Tmp} {ty : TypeId} {pos : String} {aft : Array Edge} {g : Option (Nat × Bool)} {ρ : Operand → AV} {hp : List Blk} {K : AV → List Blk → Prop}

/-! which operation it is -/
theorem is_load {t : TypeId} {x : Operand} (h : LO P F ⟨d, .load t x, ty, pos, aft, g⟩ ρ hp K) : LO P F ⟨d, .load t x, ty, pos, aft, g⟩ ρ hp K := h
theorem is_move {x : Operand} (h : LO P F ⟨d, .move x, ty, pos, aft, g⟩ ρ hp K) : LO P F ⟨d, .move x, ty, pos, aft, g⟩ ρ hp K := h
theorem is_assign {x : Operand} (h : LO P F ⟨d, .assign x, ty, pos, aft, g⟩ ρ hp K) : LO P F ⟨d, .assign x, ty, pos, aft, g⟩ ρ hp K := h
theorem is_fld {t : TypeId} {x : Operand} {k : Nat} (h : LO P F ⟨d, .fieldAddr t x k, ty, pos, aft, g⟩ ρ hp K) : LO P F ⟨d, .fieldAddr t x k, ty, pos, aft, g⟩ ρ hp K := h
theorem is_store {t : TypeId} {x y : Operand} (h : LO P F ⟨d, .store t x y, ty, pos, aft, g⟩ ρ hp K) : LO P F ⟨d, .store t x y, ty, pos, aft, g⟩ ρ hp K := h
theorem is_alloc {t : TypeId} (h : LO P F ⟨d, .alloc t, ty, pos, aft, g⟩ ρ hp K) : LO P F ⟨d, .alloc t, ty, pos, aft, g⟩ ρ hp K := h
theorem is_box {t : TypeId} {x : Operand} (h : LO P F ⟨d, .box t x, ty, pos, aft, g⟩ ρ hp K) : LO P F ⟨d, .box t x, ty, pos, aft, g⟩ ρ hp K := h
theorem is_bin {o : BinOp} {t t' : TypeId} {x y : Operand} (h : LO P F ⟨d, .binOp o t x y t', ty, pos, aft, g⟩ ρ hp K) : LO P F ⟨d, .binOp o t x y t', ty, pos, aft, g⟩ ρ hp K := h
theorem is_bi {b : Builtin} {xs : Array Operand} {ts : Array TypeId} (h : LO P F ⟨d, .call { callee := .builtin b, args := xs, argTypes := ts }, ty, pos, aft, g⟩ ρ hp K) : LO P F ⟨d, .call { callee := .builtin b, args := xs, argTypes := ts }, ty, pos, aft, g⟩ ρ hp K := h
theorem is_pick {x y z : Operand} (h : LO P F ⟨d, .pick x y z, ty, pos, aft, g⟩ ρ hp K) : LO P F ⟨d, .pick x y z, ty, pos, aft, g⟩ ρ hp K := h
theorem is_ext {x : Operand} {k : Nat} (h : LO P F ⟨d, .extract x k, ty, pos, aft, g⟩ ρ hp K) : LO P F ⟨d, .extract x k, ty, pos, aft, g⟩ ρ hp K := h
theorem v_alloc (hL : TabOk P L) {t : TypeId} {ti : TI} {cs : List AV} {n : Nat} {hp' : Nat → List Blk} (ht : L.look t = some ti) (hz : evl (ti.zero.map fun v => AV.c (.lit v)) = some cs) (hn : lenU hp = some n) (hf : ∀ b, evl (hp ++ [.box b t cs]) = some (hp' b)) (h : ∀ b, K (.ptr n b 0) (hp' b)) : LO P F ⟨d, .alloc t, ty, pos, aft, g⟩ ρ hp K :=
  lo_alloc hL ht fun b => by rw [← evl_eq hz, ← evl_eq (hf b), ← lenU_eq hn]; exact h b
theorem v_box {t : TypeId} {x : Operand} {v : AV} {cs : List AV} {n : Nat} {hp' : Nat → List Blk} (hv : ρ x = v) (hc : evl (cellsA v) = some cs) (h1 : allOne cs = true) (hn : lenU hp = some n) (hf : ∀ b, evl (hp ++ [.box b t cs]) = some (hp' b)) (h : ∀ b, K (.ptr n b 0) (hp' b)) : LO P F ⟨d, .box t x, ty, pos, aft, g⟩ ρ hp K :=
  lo_box hv (by rw [← evl_eq hc]; exact h1) fun b => by rw [← evl_eq hc, ← evl_eq (hf b), ← lenU_eq hn]; exact h b
theorem v_store (hL : TabOk P L) {t : TypeId} {ti : TI} {x y : Operand} {i b off : Nat} {tb : TypeId} {cs vs cs' : List AV} {v : AV} {hp' : List Blk} (hx : ρ x = .ptr i b off) (hi : hp[i]? = some (.box b tb cs)) (hv : ρ y = v) (ht : L.look t = some ti) (hc : evl (cellsA v) = some vs) (h1 : allOne vs = true) (hl : lenU vs = some ti.size) (hb : Nat.ble (off + ti.size) cs.length = true) (hs : evl (spl cs off vs) = some cs') (hf : evl (hp.set i (.box b tb cs')) = some hp')
    (h : K (.c (.lit undef)) hp') : LO P F ⟨d, .store t x y, ty, pos, aft, g⟩ ρ hp K :=
  lo_store hL hx hi hv ht (by rw [← evl_eq hc]; exact h1) (by rw [← evl_eq hc, ← lenU_eq hl]) hb (by rw [← evl_eq hc, ← evl_eq hs, ← evl_eq hf]; exact h)
theorem v_load_box (hL : TabOk P L) {t : TypeId} {ti : TI} {x : Operand} {i b off : Nat} {tb : TypeId} {cs l : List AV} (hx : ρ x = .ptr i b off) (hi : hp[i]? = some (.box b tb cs)) (ht : L.look t = some ti) (ha : ti.agg = true) (hl : Nat.ble (off + ti.size) cs.length = true) (he : evl ((cs.drop off).take ti.size) = some l) (h : K (.agg l) hp) : LO P F ⟨d, .load t x, ty, pos, aft, g⟩ ρ hp K :=
  lo_load_box hL hx hi ht ha hl (by rw [← evl_eq he]; exact h)
theorem v_app (hL : TabOk P L) {t el : TypeId} {ti te : TI} {x y : Operand} {i n m sz : Nat} {v : Value} {cs ts : List T} {hp' : Value → List Blk} (hx : ρ x = .own i v) (hi : hp[i]? = some (.row v el sz n cs)) (hy : ρ y = .c (.row m sz ts)) (ht : L.look t = some ti) (hd : ti.d = .slice el) (hte : L.look el = some te) (hsz : te.size = sz) (hf : ∀ v', evl (hp.set i (.row v' el sz (n + m) (cs ++ ts))) = some (hp' v')) (h63 : n + m ≤ maxLen) (hbytes : (n + m) * te.bytes ≤ 140737488355328)
    (h : ∀ v', K (.own i v') (hp' v')) : LO P F ⟨d, .call { callee := .builtin .append, args := #[x, y], argTypes := #[t, t] }, ty, pos, aft, g⟩ ρ hp K :=
  lo_app hL hx hi hy ht hd hte hsz h63 hbytes fun v' => by rw [← evl_eq (hf v')]; exact h v'
theorem v_app_nil (hL : TabOk P L) {t el : TypeId} {ti te : TI} {x y : Operand} {m sz k : Nat} {ts : List T} {hp' : Value → List Blk} (hx : ρ x = .c (.lit (.slice none 0 0))) (hy : ρ y = .c (.row m sz ts)) (ht : L.look t = some ti) (hd : ti.d = .slice el) (hte : L.look el = some te) (hsz : te.size = sz) (h0 : Nat.ble 1 sz = true) (hn : lenU hp = some k) (hf : ∀ v', evl (hp ++ [.row v' el sz m ts]) = some (hp' v')) (hbytes : m * te.bytes ≤ 140737488355328)
    (h : ∀ v', K (.own k v') (hp' v')) : LO P F ⟨d, .call { callee := .builtin .append, args := #[x, y], argTypes := #[t, t] }, ty, pos, aft, g⟩ ρ hp K :=
  lo_app_nil hL hx hy ht hd hte hsz (Nat.le_of_ble_eq_true h0) hbytes fun v' => by rw [← evl_eq (hf v'), ← lenU_eq hn]; exact h v'
theorem v_build (hL : TabOk P L) {t : TypeId} {ti : TI} {fs : List (Nat × Nat)} {parts : List (Nat × Operand)} {cs cs' : List AV} (ht : L.look t = some ti) (hd : ti.d = .struct fs) (hf : fillA (fun i => fs[i]?) (ti.zero.map fun v => .c (.lit v)) (parts.map fun p => (p.1, ρ p.2)) = some cs) (he : evl cs = some cs') (h : K (.agg cs') hp) : LO P F ⟨d, .build t parts.toArray, ty, pos, aft, g⟩ ρ hp K :=
  lo_build hL ht hd hf (by rw [← evl_eq he]; exact h)
theorem v_bslice (hL : TabOk P L) {t el : TypeId} {ti te : TI} {n : Nat} {parts : List (Nat × Operand)} {cs cs' : List AV} {ts : List T} (ht : L.look t = some ti) (hd : ti.d = .slice el) (hte : L.look el = some te) (h0 : Nat.ble 1 te.size = true) (hn : Nat.ble (n * te.size) 16777216 = true)
    (hf : fillA (fun i => some (i * te.size, te.size)) ((List.range (n * te.size)).map fun j => .c (.lit (te.zero.getD (j % te.size) undef))) (parts.map fun p => (p.1, ρ p.2)) = some cs) (he : evl cs = some cs') (hz : Rzs [] cs' ts) (h : K (.c (.row n te.size ts)) hp) : LO P F ⟨d, .buildSlice t n parts.toArray, ty, pos, aft, g⟩ ρ hp K :=
  lo_bslice hL ht hd hte h0 hn hf (by rw [← evl_eq he]; exact hz) h
theorem v_bslice_own (hL : TabOk P L) {t el : TypeId} {ti te : TI} {n k : Nat} {parts : List (Nat × Operand)} {cs cs' : List AV} {ts : List T} {hp' : Value → List Blk} (ht : L.look t = some ti) (hd : ti.d = .slice el) (hte : L.look el = some te) (h0 : Nat.ble 1 te.size = true) (hn : Nat.ble (n * te.size) 16777216 = true)
    (hf : fillA (fun i => some (i * te.size, te.size)) ((List.range (n * te.size)).map fun j => .c (.lit (te.zero.getD (j % te.size) undef))) (parts.map fun p => (p.1, ρ p.2)) = some cs) (he : evl cs = some cs') (hz : Rzs [] cs' ts) (hk : lenU hp = some k) (hq : ∀ v, evl (hp ++ [.row v el te.size n ts]) = some (hp' v)) (h : ∀ v, K (.own k v) (hp' v)) : LO P F ⟨d, .buildSlice t n parts.toArray, ty, pos, aft, g⟩ ρ hp K :=
  lo_bslice_own hL ht hd hte h0 hn hf (by rw [← evl_eq he]; exact hz) fun v => by rw [← evl_eq (hq v), ← lenU_eq hk]; exact h v
theorem v_func {f : Fn} {cap : List Operand} {l : List AV} (he : evl (cap.map ρ) = some l) (h : K (.fn f l) hp) : LO P F ⟨d, .makeFunc f #[] cap.toArray, ty, pos, aft, g⟩ ρ hp K :=
  lo_func (by rw [← evl_eq he]; exact h)

/-- calling a function value that came in -/
theorem v_callc {f : FuncId} {y : Operand} {xs : List Operand} {ats : Array TypeId} {ts cap : List T} {R : T → Prop} (hc : AF P f ts R) (hy : ρ y = .c (.fn (.func f) cap)) (hx : Rzs [] (xs.map ρ ++ cap.map .c) ts) (h : ∀ r, R r → K (.c r) hp) : LO P F ⟨d, .call { callee := .value y, args := xs.toArray, argTypes := ats }, ty, pos, aft, g⟩ ρ hp K := by
  refine ⟨fun M e w he hh => ?_⟩
  obtain ⟨hf, hcall⟩ := hc
  have h1 := he y (by first | (simp [Op.operands]; done) | simp [Op.operands, Call.operands])
  rw [hy] at h1
  simp only [RA, RT] at h1
  obtain ⟨cs, hu, hcs⟩ := h1
  rw [run_call hf hu]
  have hargs := cls_sound _ _ _ hx ((ev_all xs (fun x hx => he x (by simp [Op.operands, Call.operands, hx]))).app (RAs.ofT hcs))
  refine (hcall M w _ hh.mem hargs).mono ?_
  rintro en w' ⟨v, r, M', rfl, hR, hext, hm, hrt, hb⟩
  exact ⟨v, rfl, M', _, hp, h r hR, (hext.low hh.frm.size), hh.below hb hext hm, by simp only [RA]; exact hrt⟩

/-- a slot with nil becomes a row of the call's own -/
theorem wk_own {σ : AS} (s : Nat) (e : TypeId) (sz : Nat) (h0 : 0 < sz) {k : Nat} (hs : σ.tmps s = .c (.lit (.slice none 0 0))) (_hn : lenU σ.hp = some k) {hp' : List Blk} (hf : evl (σ.hp ++ [.row (.slice none 0 0) e sz 0 []]) = some hp') (hN : Nat.blt s σ.N = true) : Wk F σ (σ.st (some s) (.own k (.slice none 0 0)) hp') := by
  intro M a w hr
  have hh : HeapOk F M hp' w := by
    rw [evl_eq hf]
    refine push_row hr.heap rfl rfl rfl (Nat.le_refl _) (fun _ _ => rfl) (Ext.refl _ _) (fun p v h1 h2 => by rw [h2] at h1; cases h1) ⟨[], World.ownsRow_nil _ _ _ _, by simp only [RTs], fun x hx => by simp at hx, h0⟩ (fun b hb => by simp [Blk.blk, Value.ownBlock] at hb)
  refine ⟨M, fun i => ?_, hr.size, hr.defers, hh⟩
  simp only [AS.st]
  cases hc : Nat.beq i s with
  | false => simp only [Bool.false_and, cond_false]; exact hr.tmps i
  | true =>
    have := Nat.eq_of_beq_eq_true hc
    subst this
    have h1 := hr.tmps i
    rw [hs] at h1
    simp only [RA, RT] at h1
    rw [hN]
    simp only [Bool.and_self, cond_true, RA]
    exact ⟨h1, rfl⟩
/-- a cell of a variable with nil becomes a row of the call's own -/
theorem wk_own_cell {σ : AS} (i j : Nat) (e : TypeId) (sz : Nat) (h0 : 0 < sz) {k b : Nat} {t : TypeId} {cs : List AV} (hi : σ.hp[i]? = some (.box b t cs)) (hj : cs[j]? = some (.c (.lit (.slice none 0 0)))) (_hn : lenU σ.hp = some k) {hp' : List Blk} (hf : evl (σ.hp.set i (.box b t (cs.set j (.own k (.slice none 0 0)))) ++ [.row (.slice none 0 0) e sz 0 []]) = some hp') : Wk F σ ⟨σ.tmps, hp', σ.N⟩ := by
  intro M a w hr
  have hlt : i < σ.hp.length := (List.getElem?_eq_some_iff.1 hi).1
  have h1 : HeapOk F M (σ.hp.set i (.box b t (cs.set j (.own k (.slice none 0 0))))) w := by
    refine hr.heap.step i rfl rfl rfl (Nat.le_refl _) (fun _ _ _ => rfl) (Ext.refl _ _) (fun p v h1 h2 => by rw [h2] at h1; cases h1) (fun m hm => by rw [List.getElem?_set_ne (Ne.symm hm)]) (fun x' hx' => ?_)
    rw [List.getElem?_set_self hlt] at hx'
    obtain rfl : Blk.box b t (cs.set j (.own k (.slice none 0 0))) = x' := by injection hx'
    obtain ⟨xs, g1, g2, g3⟩ := hr.heap.at_ i _ hi
    refine ⟨⟨xs, g1, ?_, g3⟩, fun b' hb' => .inl ⟨_, hi, hb'⟩⟩
    obtain ⟨x, hx, hxr⟩ := g2.get hj
    simp only [RA, RT] at hxr
    have : RAs M (cs.set j (.own k (.slice none 0 0))) (xs.set j (.slice none 0 0)) := RAs.set j g2 (by simp only [RA]; exact ⟨trivial, rfl⟩)
    rwa [show xs.set j (.slice none 0 0) = xs from by
      rw [← hxr]
      have hjl : j < xs.length := (List.getElem?_eq_some_iff.1 hx).1
      have : xs[j] = x := by rw [List.getElem?_eq_getElem hjl] at hx; injection hx
      rw [← this]; exact List.set_getElem_self hjl] at this
  have hh : HeapOk F M hp' w := by
    rw [evl_eq hf]
    exact push_row h1 rfl rfl rfl (Nat.le_refl _) (fun _ _ => rfl) (Ext.refl _ _) (fun p v h1 h2 => by rw [h2] at h1; cases h1) ⟨[], World.ownsRow_nil _ _ _ _, by simp only [RTs], fun x hx => by simp at hx, h0⟩ (fun b hb => by simp [Blk.blk, Value.ownBlock] at hb)
  exact ⟨M, hr.tmps, hr.size, hr.defers, hh⟩
end

/-! ### states written out: the slots, the blocks, how many slots -/
def upd (N : Nat) (d : Tmp) (v : AV) (τ : Nat → AV) : Nat → AV := fun i => cond (Nat.beq i d && Nat.blt d N) v (τ i)
def evT (τ : Nat → AV) : Operand → AV
  | .tmp t => τ t
  | .const v => .c (.lit v)
  | .global g => .c (.lit (.pointer (some ⟨g, 0, none⟩)))
  | .func f => .fn (.func f) []
def initT (N : Nat) (args : List AV) : Nat → AV := fun i => cond (Nat.blt i N) (args.getD i (.c (.lit undef))) (.c (.lit undef))
def atT (τ : Nat → AV) (W : List Nat) (l : List (Nat × AV)) : Nat → AV := fun i => match lkp i l with | some v => v | none => cond (memB i W) .junk (τ i)
theorem evT_eq {τ : Nat → AV} {hp : List Blk} {N : Nat} : (AS.mk τ hp N).ev = evT τ := by funext x; cases x <;> rfl

section
variable {P : Program} {F : Frm} {L : Tab} {ops : Array Oper} {K : AS → Prop} {τ : Nat → AV} {hp : List Blk} {N : Nat} {rest : List Oper} {op : Op} {ty : TypeId} {pos : String} {aft : Array Edge} {g : Nat} {b c : Bool} {d t : Tmp}
theorem x_op (h : LO P F ⟨some t, op, ty, pos, aft, none⟩ (evT τ) hp fun v hp' => AL P F ops K rest ⟨upd N t v τ, hp', N⟩) : AL P F ops K (⟨some t, op, ty, pos, aft, none⟩ :: rest) ⟨τ, hp, N⟩ :=
  al_op (by rw [evT_eq]; exact h)
theorem x_opn (h : LO P F ⟨none, op, ty, pos, aft, none⟩ (evT τ) hp fun _ hp' => AL P F ops K rest ⟨τ, hp', N⟩) : AL P F ops K (⟨none, op, ty, pos, aft, none⟩ :: rest) ⟨τ, hp, N⟩ :=
  al_op (by rw [evT_eq]; exact h)
theorem x_yes (hd : (ops[g]?).bind (·.dst) = some d) (hv : τ d = .c (.lit (.bool c))) (hc : c = b)
    (h : LO P F ⟨some t, op, ty, pos, aft, some (g, b)⟩ (evT τ) hp fun v hp' => AL P F ops K rest ⟨upd N t v τ, hp', N⟩) : AL P F ops K (⟨some t, op, ty, pos, aft, some (g, b)⟩ :: rest) ⟨τ, hp, N⟩ := by
  subst hc
  exact al_do d hd hv (by rw [evT_eq]; exact h)
theorem x_yesn (hd : (ops[g]?).bind (·.dst) = some d) (hv : τ d = .c (.lit (.bool c))) (hc : c = b)
    (h : LO P F ⟨none, op, ty, pos, aft, some (g, b)⟩ (evT τ) hp fun _ hp' => AL P F ops K rest ⟨τ, hp', N⟩) : AL P F ops K (⟨none, op, ty, pos, aft, some (g, b)⟩ :: rest) ⟨τ, hp, N⟩ := by
  subst hc
  exact al_do d hd hv (by rw [evT_eq]; exact h)
theorem x_no (hd : (ops[g]?).bind (·.dst) = some d) (hv : τ d = .c (.lit (.bool c))) (hc : c = !b)
    (h : AL P F ops K rest ⟨upd N t (.c (.lit undef)) τ, hp, N⟩) : AL P F ops K (⟨some t, op, ty, pos, aft, some (g, b)⟩ :: rest) ⟨τ, hp, N⟩ := by
  subst hc
  exact al_not d hd hv h
theorem x_non (hd : (ops[g]?).bind (·.dst) = some d) (hv : τ d = .c (.lit (.bool c))) (hc : c = !b)
    (h : AL P F ops K rest ⟨τ, hp, N⟩) : AL P F ops K (⟨none, op, ty, pos, aft, some (g, b)⟩ :: rest) ⟨τ, hp, N⟩ := by
  subst hc
  exact al_not d hd hv h
theorem x_un (hd : (ops[g]?).bind (·.dst) = some d) (hv : τ d = .c (.lit undef))
    (h : AL P F ops K rest ⟨upd N t (.c (.lit undef)) τ, hp, N⟩) : AL P F ops K (⟨some t, op, ty, pos, aft, some (g, b)⟩ :: rest) ⟨τ, hp, N⟩ := al_un d hd hv h
theorem x_unn (hd : (ops[g]?).bind (·.dst) = some d) (hv : τ d = .c (.lit undef))
    (h : AL P F ops K rest ⟨τ, hp, N⟩) : AL P F ops K (⟨none, op, ty, pos, aft, some (g, b)⟩ :: rest) ⟨τ, hp, N⟩ := al_un d hd hv h
/-- part on a bool in a slot -/
theorem x_split {l : List Oper} (d : Tmp) (_hv : τ d = .c (.lit (.bool c))) (h : c = true → AL P F ops K l ⟨τ, hp, N⟩) (h' : c = false → AL P F ops K l ⟨τ, hp, N⟩) : AL P F ops K l ⟨τ, hp, N⟩ := by
  cases c
  · exact h' rfl
  · exact h rfl
end
section
variable {P : Program} {F : Frm} {d : Option Tmp} {ty : TypeId} {pos : String} {aft : Array Edge} {g : Option (Nat × Bool)} {ρ : Operand → AV} {hp : List Blk} {K : AV → List Blk → Prop}
theorem v_pick_t {c x y : Operand} {v : AV} {b : Bool} (hc : ρ c = .c (.lit (.bool b))) (hb : b = true) (hv : ρ x = v) (h : K v hp) : LO P F ⟨d, .pick c x y, ty, pos, aft, g⟩ ρ hp K := by
  subst hb; exact lo_pick_t hc hv h
theorem v_pick_f {c x y : Operand} {v : AV} {b : Bool} (hc : ρ c = .c (.lit (.bool b))) (hb : b = false) (hv : ρ y = v) (h : K v hp) : LO P F ⟨d, .pick c x y, ty, pos, aft, g⟩ ρ hp K := by
  subst hb; exact lo_pick_f hc hv h
end
section
variable {P : Program} {F : Frm} {L : Tab} {τ τ' : Nat → AV} {hp : List Blk} {N : Nat} {Q : Exit → AS → Prop}
theorem x_cond {c : Operand} {x y : Code} {t : Bool} (hc : evT τ c = .c (.lit (.bool t))) (ht : t = true → AC P F x Q ⟨τ, hp, N⟩) (hf : t = false → AC P F y Q ⟨τ, hp, N⟩) : AC P F (.cond c x y) Q ⟨τ, hp, N⟩ := ac_cond (by rw [evT_eq]; exact hc) ht hf
theorem x_t {c : Operand} {x y : Code} {t : Bool} (hc : evT τ c = .c (.lit (.bool t))) (ht : t = true) (h : AC P F x Q ⟨τ, hp, N⟩) : AC P F (.cond c x y) Q ⟨τ, hp, N⟩ := x_cond hc (fun _ => h) (fun h => by rw [ht] at h; cases h)
theorem x_f {c : Operand} {x y : Code} {t : Bool} (hc : evT τ c = .c (.lit (.bool t))) (ht : t = false) (h : AC P F y Q ⟨τ, hp, N⟩) : AC P F (.cond c x y) Q ⟨τ, hp, N⟩ := x_cond hc (fun h => by rw [ht] at h; cases h) (fun _ => h)

/-- outside W the slots are alike -/
def AgT (W : List Nat) (τ τ' : Nat → AV) : Prop := ∀ i, memB i W = false → τ i = τ' i
def HasT (τ : Nat → AV) : List (Nat × AV) → Prop
  | [] => True
  | (d, v) :: l => τ d = v ∧ HasT τ l
theorem ag_refl {W : List Nat} {τ : Nat → AV} : AgT W τ τ := fun _ _ => rfl
theorem ag_upd {W : List Nat} {N : Nat} {d : Tmp} {v : AV} (hd : memB d W = true) (h : AgT W τ τ') : AgT W (upd N d v τ) τ' := by
  have := agree_st (v := v) (hp := []) (σ := ⟨τ, [], N⟩) (τ := ⟨τ', [], N⟩) hd ⟨rfl, h⟩
  exact this.2
theorem ag_at {W W' : List Nat} {l : List (Nat × AV)} (hW : (W'.all fun d => memB d W) = true) (hl : (l.all fun p => memB p.1 W) = true) (h : AgT W τ τ') : AgT W (atT τ W' l) τ' := by
  have := agree_at (hp := []) (σ := ⟨τ, [], 0⟩) (τ := ⟨τ', [], 0⟩) hW hl ⟨rfl, h⟩
  exact this.2
theorem hasT {τ : Nat → AV} {hp : List Blk} {N : Nat} : ∀ {l : List (Nat × AV)}, HasT τ l → Has ⟨τ, hp, N⟩ l
  | [], _ => trivial
  | (_, _) :: _, h => ⟨h.1, hasT h.2⟩
/-- to a loop's head: the slots of l hold these, those of W else are forgotten -/
theorem x_wk {W : List Nat} {l : List (Nat × AV)} {hp' : List Blk} (hl : HasT τ l) (hh : hp = hp') (h : AgT W τ τ') : Wk F ⟨τ, hp, N⟩ ⟨atT τ' W l, hp', N⟩ :=
  wk_at (σ := ⟨τ, hp, N⟩) (τ := ⟨τ', hp, N⟩) (hasT hl) hh ⟨rfl, h⟩
/-- the same, blocks at the end let go -/
theorem x_wkd {W : List Nat} {l : List (Nat × AV)} {hp' : List Blk} (k : Nat) (hl : HasT τ l) (hh : evl (hp.take k) = some hp') (h : AgT W τ τ') : Wk F ⟨τ, hp, N⟩ ⟨atT τ' W l, hp', N⟩ :=
  (wk_drop (σ := ⟨τ, hp, N⟩) k).trans (x_wk hl (evl_eq hh).symm h)
/-- a loop: 'slots' hold these at its head, the other slots of W are forgotten; the blocks are these -/
theorem x_loop {c : Code} {A : Type} (W : List Nat) (slots : A → List (Nat × AV)) (hps : A → List Blk) (I : A → Prop) (μ : A → Nat) (x₀ : A) (h₀ : I x₀) (hl : HasT τ (slots x₀)) (hh : hp = hps x₀)
    (round : ∀ x, I x → AC P F c (thenA (fun σ' => ∃ y, I y ∧ μ y < μ x ∧ Wk F σ' ⟨atT τ W (slots y), hps y, N⟩) Q) ⟨atT τ W (slots x), hps x, N⟩) : AC P F (.loop c) Q ⟨τ, hp, N⟩ :=
  ac_loop (fun x => ⟨atT τ W (slots x), hps x, N⟩) I μ x₀ h₀ (x_wk hl hh ag_refl) round
theorem x_drop {c : Code} (k : Nat) {hp' : List Blk} (hh : evl (hp.take k) = some hp') (h : AC P F c Q ⟨τ, hp', N⟩) : AC P F c Q ⟨τ, hp, N⟩ :=
  ac_wk (wk_drop (σ := ⟨τ, hp, N⟩) k) (by rw [evl_eq hh] at h; exact h)
/-- a slot with nil becomes a row of the call's own -/
theorem x_own {c : Code} (s : Nat) (e : TypeId) (sz : Nat) (h0 : Nat.ble 1 sz = true) {k : Nat} (hs : τ s = .c (.lit (.slice none 0 0))) (hn : lenU hp = some k) {hp' : List Blk} (hf : evl (hp ++ [.row (.slice none 0 0) e sz 0 []]) = some hp') (hN : Nat.blt s N = true) (h : AC P F c Q ⟨upd N s (.own k (.slice none 0 0)) τ, hp', N⟩) : AC P F c Q ⟨τ, hp, N⟩ :=
  ac_wk (wk_own (σ := ⟨τ, hp, N⟩) s e sz (Nat.le_of_ble_eq_true h0) hs hn hf hN) h
theorem x_own_cell {c : Code} (i j : Nat) (e : TypeId) (sz : Nat) (h0 : Nat.ble 1 sz = true) {k b : Nat} {t : TypeId} {cs cs' : List AV} (hi : hp[i]? = some (.box b t cs)) (hj : cs[j]? = some (.c (.lit (.slice none 0 0)))) (hn : lenU hp = some k) (hc : evl (cs.set j (.own k (.slice none 0 0))) = some cs') {hp' : List Blk} (hf : evl (hp.set i (.box b t cs') ++ [.row (.slice none 0 0) e sz 0 []]) = some hp') (h : AC P F c Q ⟨τ, hp', N⟩) : AC P F c Q ⟨τ, hp, N⟩ :=
  ac_wk (wk_own_cell (σ := ⟨τ, hp, N⟩) i j e sz (Nat.le_of_ble_eq_true h0) hi hj hn (by rw [← evl_eq hc]; exact hf)) h

theorem outs_nil {σ : AS} : Outs L σ [] [] := by simp only [Outs]
theorem outs_cons {σ : AS} {r : ResultVar} {rs : List ResultVar} {t : T} {ts : List T} (h : Out1 L σ r t) (h' : Outs L σ rs ts) : Outs L σ (r :: rs) (t :: ts) := by simp only [Outs]; exact ⟨t, ts, rfl, h, h'⟩
theorem out_tmp {i : Tmp} {v : AV} {t : T} (hv : τ i = v) (h : Rz hp v t) : Out1 L ⟨τ, hp, N⟩ (.tmp i) t := by simp only [Out1]; rw [hv]; exact h
theorem out_agg {a : Tmp} {ty tb : TypeId} {i b off : Nat} {cs l : List AV} {ti : TI} {t : T} (h1 : τ a = .ptr i b off) (h2 : hp[i]? = some (.box b tb cs)) (h3 : L.look ty = some ti) (ha : ti.agg = true) (hl : Nat.ble (off + ti.size) cs.length = true) (he : evl ((cs.drop off).take ti.size) = some l) (h : Rz hp (.agg l) t) : Out1 L ⟨τ, hp, N⟩ (.cell a ty) t := by
  simp only [Out1]
  refine ⟨i, b, off, tb, cs, ti, h1, h2, h3, ?_⟩
  rw [ha]
  exact ⟨Nat.le_of_ble_eq_true hl, by rw [← evl_eq he]; exact h⟩
theorem out_one {a : Tmp} {ty tb : TypeId} {i b off : Nat} {cs : List AV} {ti : TI} {v : AV} {t : T} (h1 : τ a = .ptr i b off) (h2 : hp[i]? = some (.box b tb cs)) (h3 : L.look ty = some ti) (ha : ti.agg = false) (hv : cs[off]? = some v) (h : Rz hp v t) : Out1 L ⟨τ, hp, N⟩ (.cell a ty) t := by
  simp only [Out1]
  refine ⟨i, b, off, tb, cs, ti, h1, h2, h3, ?_⟩
  rw [ha]
  exact ⟨v, hv, h⟩
theorem fin_n {σ : AS} {res : List ResultVar} {R : T → Prop} {ts : List T} (h : Outs L σ res ts) (hR : R (outT ts)) : Fin L res R .normal σ := ⟨⟨.inl rfl, ts, h, hR⟩⟩
theorem fin_r {σ : AS} {res : List ResultVar} {R : T → Prop} {ts : List T} (h : Outs L σ res ts) (hR : R (outT ts)) : Fin L res R .ret σ := ⟨⟨.inr rfl, ts, h, hR⟩⟩
theorem af_enter {f : FuncId} {fn : Func} {c : Code} {args : List T} {as : List AV} {R : T → Prop} {N : Nat} {res : List ResultVar} (hL : TabOk P L) (hf : P.funcs[f]? = some fn) (hNt : fn.ntmps = N) (hres : fn.results = res.toArray) (hb : fn.body = some c) (hn : (fn.name == "runtime.NumGoroutine") = false) (ha : evl (args.map .c) = some as) (hN : Nat.ble as.length N = true)
    (h : ∀ F, (∀ b, ¬ F.X b) → AC P F c (Fin L res R) ⟨initT N as, [], N⟩) : AF P f args R := by
  refine af_of hL hf hb hn ?_ fun F hX => ?_
  · have := Nat.le_of_ble_eq_true hN
    rw [evl_eq ha] at this
    rw [hNt]; simpa using this
  · rw [hNt, hres, ← evl_eq ha]; exact h F hX
end

/-! ### a row of the call's own becomes memory that only is read -/
section
variable {F : Frm} {τ : Nat → AV} {hp : List Blk} {N : Nat}
def frB (M : Mm) (g : Option Nat) (w : World) : Mm := fun p =>
  match M p with
  | some v => some v
  | none => if g = some p.block then (w.cell? p).bind fun v => if v.oneCell' = true then some v else none else none
theorem frB_sub (M : Mm) (g : Option Nat) (w : World) : Sub M (frB M g w) := fun p v h => by simp [frB, h]
theorem frB_new {M : Mm} {g : Option Nat} {w : World} {p : Addr} {v : Value} (hp : frB M g w p = some v) (hn : M p = none) : g = some p.block ∧ w.cell? p = some v ∧ v.oneCell' = true := by
  unfold frB at hp
  rw [hn] at hp
  simp only at hp
  split at hp
  · rename_i hg
    refine ⟨hg, ?_⟩
    cases hc : w.cell? p with
    | none => rw [hc] at hp; simp at hp
    | some u =>
      rw [hc] at hp
      simp only [Option.bind_some] at hp
      split at hp
      · injection hp with hp; subst hp; exact ⟨rfl, by assumption⟩
      · cases hp
  · cases hp
theorem heap_frz {M : Mm} {w : World} (hh : HeapOk F M hp w) {i : Nat} {v : Value} {e : TypeId} {sz n : Nat} {ts : List T} (hi : hp[i]? = some (.row v e sz n ts)) :
    HeapOk F (frB M v.ownBlock w) (hp.set i .dead) w ∧ RT (frB M v.ownBlock w) (.row n sz ts) v := by
  have hsub := frB_sub M v.ownBlock w
  have hlt : i < hp.length := (List.getElem?_eq_some_iff.1 hi).1
  have hget : ∀ (j : Nat) (x : Blk), (hp.set i .dead)[j]? = some x → (j = i ∧ x = .dead) ∨ (j ≠ i ∧ hp[j]? = some x) := by
    intro j x hx
    by_cases hj : j = i
    · subst hj
      rw [List.getElem?_set_self hlt] at hx
      exact .inl ⟨rfl, by injection hx with hx; exact hx.symm⟩
    · rw [List.getElem?_set_ne (Ne.symm hj)] at hx
      exact .inr ⟨hj, hx⟩
  refine ⟨⟨?_, ?_, hh.frm, ?_, ?_, ?_⟩, ?_⟩
  · intro p u hp
    cases hc : M p with
    | none => exact (frB_new hp hc).2
    | some u' =>
      have := hsub p u' hc
      rw [hp] at this
      obtain rfl : u = u' := by injection this
      exact hh.mem p u hc
  · refine ⟨fun p u hp => hsub p u (hh.ext.1 p u hp), fun p u hp => ?_⟩
    cases hc : M p with
    | none =>
      obtain ⟨hg, _⟩ := frB_new hp hc
      exact .inr (hh.out i _ p.block hi hg).1
    | some u' =>
      have := hsub p u' hc
      rw [hp] at this
      obtain rfl : u = u' := by injection this
      exact hh.ext.2 p u hc
  · intro j x hx
    rcases hget j x hx with ⟨_, rfl⟩ | ⟨_, hx⟩
    · trivial
    · exact (hh.at_ j x hx).keep hsub fun _ _ _ => rfl
  · intro j k x y b hx hy hxb hyb
    rcases hget j x hx with ⟨_, rfl⟩ | ⟨_, hx⟩
    · simp [Blk.blk] at hxb
    · rcases hget k y hy with ⟨_, rfl⟩ | ⟨_, hy⟩
      · simp [Blk.blk] at hyb
      · exact hh.sep j k x y b hx hy hxb hyb
  · intro j x b hx hxb
    rcases hget j x hx with ⟨_, rfl⟩ | ⟨hj, hx⟩
    · simp [Blk.blk] at hxb
    · obtain ⟨h1, h2⟩ := hh.out j x b hx hxb
      refine ⟨h1, fun p hp => ?_⟩
      cases hc : frB M v.ownBlock w p with
      | none => rfl
      | some u =>
        obtain ⟨hg, _⟩ := frB_new hc (h2 p hp)
        exact absurd (hh.sep j i x _ b hx hi hxb (by rw [← hp]; exact hg)) hj
  · obtain ⟨xs, ho, hx, h1, hsz⟩ := hh.at_ i _ hi
    obtain ⟨A, c, rfl, hnc, hcm⟩ := own_shape ho
    simp only [RT]
    refine ⟨A, c, xs, rfl, hnc, Nat.le_trans hnc hcm, hsz, ho.1, fun hn => ?_, RTs.mono hsub _ _ hx⟩
    rcases ho.2 with ⟨_, h0⟩ | ⟨g, cap, cur, hv, _, hg, _⟩
    · omega
    · have hA : A = some ⟨g, 0, none⟩ := by injection hv
      subst hA
      refine ⟨_, rfl, fun j x hj => ?_⟩
      have hn : M (Addr.add ⟨g, 0, none⟩ j) = none := (hh.out i _ g hi rfl).2 _ (by rw [add_block])
      have hc := ho.cells (g := g) rfl j x hj
      simp [frB, hn, Value.ownBlock, add_block, hc, h1 x (List.mem_of_getElem? hj)]
theorem wk_fz (s : Nat) {i : Nat} {v : Value} {e : TypeId} {sz n : Nat} {ts : List T} {hp' : List Blk} (hs : τ s = .own i v) (hi : hp[i]? = some (.row v e sz n ts)) (hf : evl (hp.set i .dead) = some hp') (hN : Nat.blt s N = true) : Wk F ⟨τ, hp, N⟩ ⟨upd N s (.c (.row n sz ts)) τ, hp', N⟩ := by
  intro M a w hr
  obtain ⟨h1, h2⟩ := heap_frz hr.heap hi
  rw [← evl_eq hf] at h1
  refine ⟨_, fun k => ?_, hr.size, hr.defers, h1⟩
  simp only [upd]
  cases hc : Nat.beq k s with
  | false => simp only [Bool.false_and, cond_false]; exact RA.mono (frB_sub _ _ _) _ _ (hr.tmps k)
  | true =>
    have := Nat.eq_of_beq_eq_true hc
    subst this
    have h3 : RA M (τ k) (a.tmps.getD k undef) := hr.tmps k
    rw [hs] at h3
    simp only [RA] at h3
    rw [hN]
    simp only [Bool.and_self, cond_true, RA]
    rw [h3.1]; exact h2
theorem x_fz {P : Program} {Q : Exit → AS → Prop} {c : Code} (s : Nat) {i : Nat} {v : Value} {e : TypeId} {sz n : Nat} {ts : List T} {hp' : List Blk} (hs : τ s = .own i v) (hi : hp[i]? = some (.row v e sz n ts)) (hf : evl (hp.set i .dead) = some hp') (hN : Nat.blt s N = true) (h : AC P F c Q ⟨upd N s (.c (.row n sz ts)) τ, hp', N⟩) : AC P F c Q ⟨τ, hp, N⟩ :=
  ac_wk (wk_fz s hs hi hf hN) h
theorem wk_frz (_hX : ∀ b, ¬ F.X b) (s : Nat) {i : Nat} {v : Value} {e : TypeId} {sz n : Nat} {ts : List T} {hp' : List Blk} (hs : τ s = .own i v) (hi : hp[i]? = some (.row v e sz n ts)) (hf : evl (hp.set i .dead) = some hp') (hN : Nat.blt s N = true) : Wk F ⟨τ, hp, N⟩ ⟨upd N s (.c (.row n sz ts)) τ, hp', N⟩ := wk_fz s hs hi hf hN
theorem x_frz {P : Program} {Q : Exit → AS → Prop} {c : Code} (_hX : ∀ b, ¬ F.X b) (s : Nat) {i : Nat} {v : Value} {e : TypeId} {sz n : Nat} {ts : List T} {hp' : List Blk} (hs : τ s = .own i v) (hi : hp[i]? = some (.row v e sz n ts)) (hf : evl (hp.set i .dead) = some hp') (hN : Nat.blt s N = true) (h : AC P F c Q ⟨upd N s (.c (.row n sz ts)) τ, hp', N⟩) : AC P F c Q ⟨τ, hp, N⟩ := x_fz s hs hi hf hN h
end

/-! ### elements of rows -/
theorem flat_at {α : Type} (f : α → List T) (sz : Nat) (hf : ∀ a, (f a).length = sz) : ∀ {l : List α} {k : Nat} {x : α}, l[k]? = some x → ((l.flatMap f).drop (k * sz)).take sz = f x
  | [], _, _, h => by simp at h
  | a :: l, 0, x, h => by
    obtain rfl : a = x := by simpa using h
    rw [List.flatMap_cons, Nat.zero_mul, List.drop_zero, ← hf a, List.take_left]
  | a :: l, k + 1, x, h => by
    rw [List.flatMap_cons, List.drop_append, List.drop_eq_nil_of_le (by rw [hf, Nat.add_mul]; omega), List.nil_append, hf, show (k + 1) * sz - sz = k * sz by rw [Nat.add_mul]; omega]
    exact flat_at f sz hf (by simpa using h)
theorem flat_len {α : Type} (f : α → List T) (sz : Nat) (hf : ∀ a, (f a).length = sz) : ∀ l : List α, (l.flatMap f).length = l.length * sz
  | [] => by simp
  | v :: l => by rw [List.flatMap_cons, List.length_append, hf, flat_len f sz hf l, List.length_cons, Nat.add_mul]; omega
theorem flat_get {α : Type} (f : α → List T) (sz : Nat) (hf : ∀ a, (f a).length = sz) {l : List α} {k j : Nat} {x : α} (hk : l[k]? = some x) (hj : j < sz) : (l.flatMap f)[k * sz + j]? = (f x)[j]? := by
  rw [← flat_at f sz hf hk, List.getElem?_take, if_pos hj, List.getElem?_drop]

end Go.Proofs.Ythgackidonocpaa
