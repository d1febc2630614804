/-
  Texts of this proof, part 4: Ab9 Ab10 Ab11.
-/
import Derived.Test.YthloejmmgdjimaaDoorQSessionSays3
import Derived.Lib.AppendStr
import Derived.Lib.AppendZerosOnto
import Derived.Lib.MinMax
import Derived.StillTail
import Derived.WideKeyEntry
namespace Go.Proofs.YthloejmmgdjimaaDoor
open Go.RowKit
theorem neg_t {b : Bool} (h : b = false) : (!b) = true := by rw [h]; rfl
theorem neg_f {b : Bool} (h : b = true) : (!b) = false := by rw [h]; rfl
def evl {α : Type} : List α → Option (List α)
  | [] => some []
  | a :: l => match evl l with | some r => some (a :: r) | none => none
theorem evl_eq {α : Type} : ∀ {l r : List α}, evl l = some r → r = l
  | [], r, h => by simp only [evl, Option.some.injEq] at h; exact h.symm
  | a :: l, r, h => by
    simp only [evl] at h
    cases hl : evl l with
    | none => rw [hl] at h; cases h
    | some r' =>
      rw [hl] at h
      simp only [Option.some.injEq] at h
      rw [← h, evl_eq hl]
def lenU {α : Type} : List α → Option Nat
  | [] => some 0
  | _ :: l => match lenU l with | some n => some (n + 1) | none => none
theorem lenU_eq {α : Type} : ∀ {l : List α} {n : Nat}, lenU l = some n → n = l.length
  | [], n, h => by simp only [lenU, Option.some.injEq] at h; exact h.symm
  | a :: l, n, h => by
    simp only [lenU] at h
    cases hl : lenU l with
    | none => rw [hl] at h; cases h
    | some m =>
      rw [hl] at h
      simp only [Option.some.injEq] at h
      rw [← h, lenU_eq hl]; rfl
section
variable {P : Program} {F : Frm} {L : Tab} {d : Option Tmp} {ty : TypeId} {pos : String} {aft : Array Edge} {g : Option (Nat × Bool)} {ρ : Operand → AV} {hp : List Blk} {K : AV → List Blk → Prop}
theorem v_alloc (hL : TabOk P L) {t : TypeId} {ti : TI} {cs : List AV} {n : Nat} {hp' : Nat → List Blk} (ht : L.look t = some ti) (hz : evl (ti.zero.map fun v => AV.c (.lit v)) = some cs) (hn : lenU hp = some n) (hf : ∀ b, evl (hp ++ [.box b t cs]) = some (hp' b)) (h : ∀ b, K (.ptr n b 0) (hp' b)) : LO P F ⟨d, .alloc t, ty, pos, aft, g⟩ ρ hp K :=
  lo_alloc hL ht fun b => by rw [← evl_eq hz, ← evl_eq (hf b), ← lenU_eq hn]; exact h b
theorem v_box {t : TypeId} {x : Operand} {v : AV} {cs : List AV} {n : Nat} {hp' : Nat → List Blk} (hv : ρ x = v) (hc : evl (cellsA v) = some cs) (h1 : allOne cs = true) (hn : lenU hp = some n) (hf : ∀ b, evl (hp ++ [.box b t cs]) = some (hp' b)) (h : ∀ b, K (.ptr n b 0) (hp' b)) : LO P F ⟨d, .box t x, ty, pos, aft, g⟩ ρ hp K :=
  lo_box hv (by rw [← evl_eq hc]; exact h1) fun b => by rw [← evl_eq hc, ← evl_eq (hf b), ← lenU_eq hn]; exact h b
theorem v_store (hL : TabOk P L) {t : TypeId} {ti : TI} {x y : Operand} {i b off : Nat} {tb : TypeId} {cs vs cs' : List AV} {v : AV} {hp' : List Blk} (hx : ρ x = .ptr i b off) (hi : hp[i]? = some (.box b tb cs)) (hv : ρ y = v) (ht : L.look t = some ti) (hc : evl (cellsA v) = some vs) (h1 : allOne vs = true) (hl : lenU vs = some ti.size) (hb : Nat.ble (off + ti.size) cs.length = true) (hs : evl (spl cs off vs) = some cs') (hf : evl (hp.set i (.box b tb cs')) = some hp')
    (h : K (.c (.lit undef)) hp') : LO P F ⟨d, .store t x y, ty, pos, aft, g⟩ ρ hp K :=
  lo_store hL hx hi hv ht (by rw [← evl_eq hc]; exact h1) (by rw [← evl_eq hc, ← lenU_eq hl]) hb (by rw [← evl_eq hc, ← evl_eq hs, ← evl_eq hf]; exact h)
theorem v_load_box (hL : TabOk P L) {t : TypeId} {ti : TI} {x : Operand} {i b off : Nat} {tb : TypeId} {cs l : List AV} (hx : ρ x = .ptr i b off) (hi : hp[i]? = some (.box b tb cs)) (ht : L.look t = some ti) (ha : ti.agg = true) (hl : Nat.ble (off + ti.size) cs.length = true) (he : evl ((cs.drop off).take ti.size) = some l) (h : K (.agg l) hp) : LO P F ⟨d, .load t x, ty, pos, aft, g⟩ ρ hp K :=
  lo_load_box hL hx hi ht ha hl (by rw [← evl_eq he]; exact h)
theorem v_app (hL : TabOk P L) {t el : TypeId} {ti te : TI} {x y : Operand} {i n m sz : Nat} {v : Value} {cs ts : List T} {hp' : Value → List Blk} (hx : ρ x = .own i v) (hi : hp[i]? = some (.row v el sz n cs)) (hy : ρ y = .c (.row m sz ts)) (ht : L.look t = some ti) (hd : ti.d = .slice el) (hte : L.look el = some te) (hsz : te.size = sz) (hf : ∀ v', evl (hp.set i (.row v' el sz (n + m) (cs ++ ts))) = some (hp' v')) (h63 : n + m ≤ maxLen) (hbytes : (n + m) * te.bytes ≤ 140737488355328)
    (h : ∀ v', K (.own i v') (hp' v')) : LO P F ⟨d, .call { callee := .builtin .append, args := #[x, y], argTypes := #[t, t] }, ty, pos, aft, g⟩ ρ hp K :=
  lo_app hL hx hi hy ht hd hte hsz h63 hbytes fun v' => by rw [← evl_eq (hf v')]; exact h v'
theorem v_build (hL : TabOk P L) {t : TypeId} {ti : TI} {fs : List (Nat × Nat)} {parts : List (Nat × Operand)} {cs cs' : List AV} (ht : L.look t = some ti) (hd : ti.d = .struct fs) (hf : fillA (fun i => fs[i]?) (ti.zero.map fun v => .c (.lit v)) (parts.map fun p => (p.1, ρ p.2)) = some cs) (he : evl cs = some cs') (h : K (.agg cs') hp) : LO P F ⟨d, .build t parts.toArray, ty, pos, aft, g⟩ ρ hp K :=
  lo_build hL ht hd hf (by rw [← evl_eq he]; exact h)
theorem v_bslice (hL : TabOk P L) {t el : TypeId} {ti te : TI} {n : Nat} {parts : List (Nat × Operand)} {cs cs' : List AV} {ts : List T} (ht : L.look t = some ti) (hd : ti.d = .slice el) (hte : L.look el = some te) (h0 : Nat.ble 1 te.size = true) (hn : Nat.ble (n * te.size) 16777216 = true)
    (hf : fillA (fun i => some (i * te.size, te.size)) ((List.range (n * te.size)).map fun j => .c (.lit (te.zero.getD (j % te.size) undef))) (parts.map fun p => (p.1, ρ p.2)) = some cs) (he : evl cs = some cs') (hz : Rzs [] cs' ts) (h : K (.c (.row n te.size ts)) hp) : LO P F ⟨d, .buildSlice t n parts.toArray, ty, pos, aft, g⟩ ρ hp K :=
  lo_bslice hL ht hd hte h0 hn hf (by rw [← evl_eq he]; exact hz) h
theorem v_bslice_own (hL : TabOk P L) {t el : TypeId} {ti te : TI} {n k : Nat} {parts : List (Nat × Operand)} {cs cs' : List AV} {ts : List T} {hp' : Value → List Blk} (ht : L.look t = some ti) (hd : ti.d = .slice el) (hte : L.look el = some te) (h0 : Nat.ble 1 te.size = true) (hn : Nat.ble (n * te.size) 16777216 = true)
    (hf : fillA (fun i => some (i * te.size, te.size)) ((List.range (n * te.size)).map fun j => .c (.lit (te.zero.getD (j % te.size) undef))) (parts.map fun p => (p.1, ρ p.2)) = some cs) (he : evl cs = some cs') (hz : Rzs [] cs' ts) (hk : lenU hp = some k) (hq : ∀ v, evl (hp ++ [.row v el te.size n ts]) = some (hp' v)) (h : ∀ v, K (.own k v) (hp' v)) : LO P F ⟨d, .buildSlice t n parts.toArray, ty, pos, aft, g⟩ ρ hp K :=
  lo_bslice_own hL ht hd hte h0 hn hf (by rw [← evl_eq he]; exact hz) fun v => by rw [← evl_eq (hq v), ← lenU_eq hk]; exact h v
theorem v_func {f : Fn} {cap : List Operand} {l : List AV} (he : evl (cap.map ρ) = some l) (h : K (.fn f l) hp) : LO P F ⟨d, .makeFunc f #[] cap.toArray, ty, pos, aft, g⟩ ρ hp K :=
  lo_func (by rw [← evl_eq he]; exact h)
/-- calling a function value that came in -/
theorem v_callc {f : FuncId} {y : Operand} {xs : List Operand} {ats : Array TypeId} {ts cap : List T} {R : T → Prop} (hc : AF P f ts R) (hy : ρ y = .c (.fn (.func f) cap)) (hx : Rzs [] (xs.map ρ ++ cap.map .c) ts) (h : ∀ r, R r → K (.c r) hp) : LO P F ⟨d, .call { callee := .value y, args := xs.toArray, argTypes := ats }, ty, pos, aft, g⟩ ρ hp K := by
  refine ⟨fun M e w he hh => ?_⟩
  obtain ⟨hf, hcall⟩ := hc
  have h1 := he y (by first | (simp [Op.operands]; done) | simp [Op.operands, Call.operands])
  rw [hy] at h1
  simp only [RA, RT] at h1
  obtain ⟨cs, hu, hcs⟩ := h1
  rw [run_call hf hu]
  have hargs := cls_sound _ _ _ hx ((ev_all xs (fun x hx => he x (by simp [Op.operands, Call.operands, hx]))).app (RAs.ofT hcs))
  refine (hcall M w _ hh.glob hh.mem hargs).mono ?_
  rintro en w' ⟨v, r, M', rfl, hR, hext, hm, hrt, hb⟩
  exact ⟨v, rfl, M', _, hp, h r hR, (hext.low hh.frm.size), hh.below hb hext hm, by simp only [RA]; exact hrt⟩
/-- a slot with nil becomes a row of the call's own -/
theorem wk_own {σ : AS} (s : Nat) (e : TypeId) (sz : Nat) (h0 : 0 < sz) {k : Nat} (hs : σ.tmps s = .c (.lit (.slice none 0 0))) (_hn : lenU σ.hp = some k) {hp' : List Blk} (hf : evl (σ.hp ++ [.row (.slice none 0 0) e sz 0 []]) = some hp') (hN : Nat.blt s σ.N = true) : Wk F σ (σ.st (some s) (.own k (.slice none 0 0)) hp') := by
  intro M a w hr
  have hh : HeapOk F M hp' w := by
    rw [evl_eq hf]
    refine push_row hr.heap rfl rfl rfl (Nat.le_refl _) (fun _ _ => rfl) (Ext.refl _ _) (fun p v h1 h2 => by rw [h2] at h1; cases h1) ⟨[], ownsO_nil _ _ _, by simp only [RTs], fun x hx => by simp at hx, h0⟩ (fun b hb => by simp [Blk.blk, Value.ownBlock] at hb)
  refine ⟨M, fun i => ?_, hr.size, hr.defers, hh⟩
  simp only [AS.st]
  cases hc : Nat.beq i s with
  | false => simp only [Bool.false_and, cond_false]; exact hr.tmps i
  | true =>
    have := Nat.eq_of_beq_eq_true hc
    subst this
    have h1 := hr.tmps i
    rw [hs] at h1
    simp only [RA, RT] at h1
    rw [hN]
    simp only [Bool.and_self, cond_true, RA]
    exact ⟨h1, rfl⟩
/-- a cell of a variable with nil becomes a row of the call's own -/
theorem wk_own_cell {σ : AS} (i j : Nat) (e : TypeId) (sz : Nat) (h0 : 0 < sz) {k b : Nat} {t : TypeId} {cs : List AV} (hi : σ.hp[i]? = some (.box b t cs)) (hj : cs[j]? = some (.c (.lit (.slice none 0 0)))) (_hn : lenU σ.hp = some k) {hp' : List Blk} (hf : evl (σ.hp.set i (.box b t (cs.set j (.own k (.slice none 0 0)))) ++ [.row (.slice none 0 0) e sz 0 []]) = some hp') : Wk F σ ⟨σ.tmps, hp', σ.N⟩ := by
  intro M a w hr
  have hlt : i < σ.hp.length := (List.getElem?_eq_some_iff.1 hi).1
  have h1 : HeapOk F M (σ.hp.set i (.box b t (cs.set j (.own k (.slice none 0 0))))) w := by
    refine hr.heap.step i rfl rfl rfl (Nat.le_refl _) (fun _ _ _ => rfl) (Ext.refl _ _) (fun p v h1 h2 => by rw [h2] at h1; cases h1) (fun m hm => by rw [List.getElem?_set_ne (Ne.symm hm)]) (fun x' hx' => ?_)
    rw [List.getElem?_set_self hlt] at hx'
    obtain rfl : Blk.box b t (cs.set j (.own k (.slice none 0 0))) = x' := by injection hx'
    obtain ⟨xs, g1, g2, g3⟩ := hr.heap.at_ i _ hi
    refine ⟨⟨xs, g1, ?_, g3⟩, fun b' hb' => .inl ⟨_, hi, hb'⟩⟩
    obtain ⟨x, hx, hxr⟩ := g2.get hj
    simp only [RA, RT] at hxr
    have : RAs M (cs.set j (.own k (.slice none 0 0))) (xs.set j (.slice none 0 0)) := RAs.set j g2 (by simp only [RA]; exact ⟨trivial, rfl⟩)
    rwa [show xs.set j (.slice none 0 0) = xs from by
      rw [← hxr]
      have hjl : j < xs.length := (List.getElem?_eq_some_iff.1 hx).1
      have : xs[j] = x := by rw [List.getElem?_eq_getElem hjl] at hx; injection hx
      rw [← this]; exact List.set_getElem_self hjl] at this
  have hh : HeapOk F M hp' w := by
    rw [evl_eq hf]
    exact push_row h1 rfl rfl rfl (Nat.le_refl _) (fun _ _ => rfl) (Ext.refl _ _) (fun p v h1 h2 => by rw [h2] at h1; cases h1) ⟨[], ownsO_nil _ _ _, by simp only [RTs], fun x hx => by simp at hx, h0⟩ (fun b hb => by simp [Blk.blk, Value.ownBlock] at hb)
  exact ⟨M, hr.tmps, hr.size, hr.defers, hh⟩
end
def upd (N : Nat) (d : Tmp) (v : AV) (τ : Nat → AV) : Nat → AV := fun i => cond (Nat.beq i d && Nat.blt d N) v (τ i)
def evT (τ : Nat → AV) : Operand → AV
  | .tmp t => τ t
  | .const v => .c (.lit v)
  | .global g => .c (.lit (.pointer (some ⟨g, 0, none⟩)))
  | .func f => .fn (.func f) []
def initT (N : Nat) (args : List AV) : Nat → AV := fun i => cond (Nat.blt i N) (args.getD i (.c (.lit undef))) (.c (.lit undef))
def atT (τ : Nat → AV) (W : List Nat) (l : List (Nat × AV)) : Nat → AV := fun i => match lkp i l with | some v => v | none => cond (memB i W) .junk (τ i)
theorem evT_eq {τ : Nat → AV} {hp : List Blk} {N : Nat} : (AS.mk τ hp N).ev = evT τ := by funext x; cases x <;> rfl
section
variable {P : Program} {F : Frm} {L : Tab} {ops : Array Oper} {K : AS → Prop} {τ : Nat → AV} {hp : List Blk} {N : Nat} {rest : List Oper} {op : Op} {ty : TypeId} {pos : String} {aft : Array Edge} {g : Nat} {b c : Bool} {d t : Tmp}
theorem x_op (h : LO P F ⟨some t, op, ty, pos, aft, none⟩ (evT τ) hp fun v hp' => AL P F ops K rest ⟨upd N t v τ, hp', N⟩) : AL P F ops K (⟨some t, op, ty, pos, aft, none⟩ :: rest) ⟨τ, hp, N⟩ :=
  al_op (by rw [evT_eq]; exact h)
theorem x_opn (h : LO P F ⟨none, op, ty, pos, aft, none⟩ (evT τ) hp fun _ hp' => AL P F ops K rest ⟨τ, hp', N⟩) : AL P F ops K (⟨none, op, ty, pos, aft, none⟩ :: rest) ⟨τ, hp, N⟩ :=
  al_op (by rw [evT_eq]; exact h)
theorem x_yes (hd : (ops[g]?).bind (·.dst) = some d) (hv : τ d = .c (.lit (.bool c))) (hc : c = b)
    (h : LO P F ⟨some t, op, ty, pos, aft, some (g, b)⟩ (evT τ) hp fun v hp' => AL P F ops K rest ⟨upd N t v τ, hp', N⟩) : AL P F ops K (⟨some t, op, ty, pos, aft, some (g, b)⟩ :: rest) ⟨τ, hp, N⟩ := by
  subst hc
  exact al_do d hd hv (by rw [evT_eq]; exact h)
theorem x_yesn (hd : (ops[g]?).bind (·.dst) = some d) (hv : τ d = .c (.lit (.bool c))) (hc : c = b)
    (h : LO P F ⟨none, op, ty, pos, aft, some (g, b)⟩ (evT τ) hp fun _ hp' => AL P F ops K rest ⟨τ, hp', N⟩) : AL P F ops K (⟨none, op, ty, pos, aft, some (g, b)⟩ :: rest) ⟨τ, hp, N⟩ := by
  subst hc
  exact al_do d hd hv (by rw [evT_eq]; exact h)
theorem x_no (hd : (ops[g]?).bind (·.dst) = some d) (hv : τ d = .c (.lit (.bool c))) (hc : c = !b)
    (h : AL P F ops K rest ⟨upd N t (.c (.lit undef)) τ, hp, N⟩) : AL P F ops K (⟨some t, op, ty, pos, aft, some (g, b)⟩ :: rest) ⟨τ, hp, N⟩ := by
  subst hc
  exact al_not d hd hv h
theorem x_non (hd : (ops[g]?).bind (·.dst) = some d) (hv : τ d = .c (.lit (.bool c))) (hc : c = !b)
    (h : AL P F ops K rest ⟨τ, hp, N⟩) : AL P F ops K (⟨none, op, ty, pos, aft, some (g, b)⟩ :: rest) ⟨τ, hp, N⟩ := by
  subst hc
  exact al_not d hd hv h
theorem x_un (hd : (ops[g]?).bind (·.dst) = some d) (hv : τ d = .c (.lit undef))
    (h : AL P F ops K rest ⟨upd N t (.c (.lit undef)) τ, hp, N⟩) : AL P F ops K (⟨some t, op, ty, pos, aft, some (g, b)⟩ :: rest) ⟨τ, hp, N⟩ := al_un d hd hv h
theorem x_unn (hd : (ops[g]?).bind (·.dst) = some d) (hv : τ d = .c (.lit undef))
    (h : AL P F ops K rest ⟨τ, hp, N⟩) : AL P F ops K (⟨none, op, ty, pos, aft, some (g, b)⟩ :: rest) ⟨τ, hp, N⟩ := al_un d hd hv h
end
section
variable {P : Program} {F : Frm} {d : Option Tmp} {ty : TypeId} {pos : String} {aft : Array Edge} {g : Option (Nat × Bool)} {ρ : Operand → AV} {hp : List Blk} {K : AV → List Blk → Prop}
theorem v_pick_t {c x y : Operand} {v : AV} {b : Bool} (hc : ρ c = .c (.lit (.bool b))) (hb : b = true) (hv : ρ x = v) (h : K v hp) : LO P F ⟨d, .pick c x y, ty, pos, aft, g⟩ ρ hp K := by
  subst hb; exact lo_pick_t hc hv h
theorem v_pick_f {c x y : Operand} {v : AV} {b : Bool} (hc : ρ c = .c (.lit (.bool b))) (hb : b = false) (hv : ρ y = v) (h : K v hp) : LO P F ⟨d, .pick c x y, ty, pos, aft, g⟩ ρ hp K := by
  subst hb; exact lo_pick_f hc hv h
end
section
variable {P : Program} {F : Frm} {L : Tab} {τ τ' : Nat → AV} {hp : List Blk} {N : Nat} {Q : Exit → AS → Prop}
theorem x_cond {c : Operand} {x y : Code} {t : Bool} (hc : evT τ c = .c (.lit (.bool t))) (ht : t = true → AC P F x Q ⟨τ, hp, N⟩) (hf : t = false → AC P F y Q ⟨τ, hp, N⟩) : AC P F (.cond c x y) Q ⟨τ, hp, N⟩ := ac_cond (by rw [evT_eq]; exact hc) ht hf
theorem x_t {c : Operand} {x y : Code} {t : Bool} (hc : evT τ c = .c (.lit (.bool t))) (ht : t = true) (h : AC P F x Q ⟨τ, hp, N⟩) : AC P F (.cond c x y) Q ⟨τ, hp, N⟩ := x_cond hc (fun _ => h) (fun h => by rw [ht] at h; cases h)
theorem x_f {c : Operand} {x y : Code} {t : Bool} (hc : evT τ c = .c (.lit (.bool t))) (ht : t = false) (h : AC P F y Q ⟨τ, hp, N⟩) : AC P F (.cond c x y) Q ⟨τ, hp, N⟩ := x_cond hc (fun h => by rw [ht] at h; cases h) (fun _ => h)
/-- outside W the slots are alike -/
def AgT (W : List Nat) (τ τ' : Nat → AV) : Prop := ∀ i, memB i W = false → τ i = τ' i
def HasT (τ : Nat → AV) : List (Nat × AV) → Prop
  | [] => True
  | (d, v) :: l => τ d = v ∧ HasT τ l
theorem ag_refl {W : List Nat} {τ : Nat → AV} : AgT W τ τ := fun _ _ => rfl
theorem ag_upd {W : List Nat} {N : Nat} {d : Tmp} {v : AV} (hd : memB d W = true) (h : AgT W τ τ') : AgT W (upd N d v τ) τ' := by
  have := agree_st (v := v) (hp := []) (σ := ⟨τ, [], N⟩) (τ := ⟨τ', [], N⟩) hd ⟨rfl, h⟩
  exact this.2
theorem ag_at {W W' : List Nat} {l : List (Nat × AV)} (hW : (W'.all fun d => memB d W) = true) (hl : (l.all fun p => memB p.1 W) = true) (h : AgT W τ τ') : AgT W (atT τ W' l) τ' := by
  have := agree_at (hp := []) (σ := ⟨τ, [], 0⟩) (τ := ⟨τ', [], 0⟩) hW hl ⟨rfl, h⟩
  exact this.2
theorem hasT {τ : Nat → AV} {hp : List Blk} {N : Nat} : ∀ {l : List (Nat × AV)}, HasT τ l → Has ⟨τ, hp, N⟩ l
  | [], _ => trivial
  | (_, _) :: _, h => ⟨h.1, hasT h.2⟩
/-- to a loop's head: the slots of l hold these, those of W else are forgotten -/
theorem x_wk {W : List Nat} {l : List (Nat × AV)} {hp' : List Blk} (hl : HasT τ l) (hh : hp = hp') (h : AgT W τ τ') : Wk F ⟨τ, hp, N⟩ ⟨atT τ' W l, hp', N⟩ :=
  wk_at (σ := ⟨τ, hp, N⟩) (τ := ⟨τ', hp, N⟩) (hasT hl) hh ⟨rfl, h⟩
/-- the same, blocks at the end let go -/
theorem x_wkd {W : List Nat} {l : List (Nat × AV)} {hp' : List Blk} (k : Nat) (hl : HasT τ l) (hh : evl (hp.take k) = some hp') (h : AgT W τ τ') : Wk F ⟨τ, hp, N⟩ ⟨atT τ' W l, hp', N⟩ :=
  (wk_drop (σ := ⟨τ, hp, N⟩) k).trans (x_wk hl (evl_eq hh).symm h)
/-- a loop: 'slots' hold these at its head, the other slots of W are forgotten; the blocks are these -/
theorem x_loop {c : Code} {A : Type} (W : List Nat) (slots : A → List (Nat × AV)) (hps : A → List Blk) (I : A → Prop) (μ : A → Nat) (x₀ : A) (h₀ : I x₀) (hl : HasT τ (slots x₀)) (hh : hp = hps x₀)
    (round : ∀ x, I x → AC P F c (thenA (fun σ' => ∃ y, I y ∧ μ y < μ x ∧ Wk F σ' ⟨atT τ W (slots y), hps y, N⟩) Q) ⟨atT τ W (slots x), hps x, N⟩) : AC P F (.loop c) Q ⟨τ, hp, N⟩ :=
  ac_loop (fun x => ⟨atT τ W (slots x), hps x, N⟩) I μ x₀ h₀ (x_wk hl hh ag_refl) round
/-- a slot with nil becomes a row of the call's own -/
theorem x_own {c : Code} (s : Nat) (e : TypeId) (sz : Nat) (h0 : Nat.ble 1 sz = true) {k : Nat} (hs : τ s = .c (.lit (.slice none 0 0))) (hn : lenU hp = some k) {hp' : List Blk} (hf : evl (hp ++ [.row (.slice none 0 0) e sz 0 []]) = some hp') (hN : Nat.blt s N = true) (h : AC P F c Q ⟨upd N s (.own k (.slice none 0 0)) τ, hp', N⟩) : AC P F c Q ⟨τ, hp, N⟩ :=
  ac_wk (wk_own (σ := ⟨τ, hp, N⟩) s e sz (Nat.le_of_ble_eq_true h0) hs hn hf hN) h
theorem x_own_cell {c : Code} (i j : Nat) (e : TypeId) (sz : Nat) (h0 : Nat.ble 1 sz = true) {k b : Nat} {t : TypeId} {cs cs' : List AV} (hi : hp[i]? = some (.box b t cs)) (hj : cs[j]? = some (.c (.lit (.slice none 0 0)))) (hn : lenU hp = some k) (hc : evl (cs.set j (.own k (.slice none 0 0))) = some cs') {hp' : List Blk} (hf : evl (hp.set i (.box b t cs') ++ [.row (.slice none 0 0) e sz 0 []]) = some hp') (h : AC P F c Q ⟨τ, hp', N⟩) : AC P F c Q ⟨τ, hp, N⟩ :=
  ac_wk (wk_own_cell (σ := ⟨τ, hp, N⟩) i j e sz (Nat.le_of_ble_eq_true h0) hi hj hn (by rw [← evl_eq hc]; exact hf)) h
theorem outs_nil {σ : AS} : Outs L σ [] [] := by simp only [Outs]
theorem outs_cons {σ : AS} {r : ResultVar} {rs : List ResultVar} {t : T} {ts : List T} (h : Out1 L σ r t) (h' : Outs L σ rs ts) : Outs L σ (r :: rs) (t :: ts) := by simp only [Outs]; exact ⟨t, ts, rfl, h, h'⟩
theorem out_tmp {i : Tmp} {v : AV} {t : T} (hv : τ i = v) (h : Rz hp v t) : Out1 L ⟨τ, hp, N⟩ (.tmp i) t := by simp only [Out1]; rw [hv]; exact h
theorem out_agg {a : Tmp} {ty tb : TypeId} {i b off : Nat} {cs l : List AV} {ti : TI} {t : T} (h1 : τ a = .ptr i b off) (h2 : hp[i]? = some (.box b tb cs)) (h3 : L.look ty = some ti) (ha : ti.agg = true) (hl : Nat.ble (off + ti.size) cs.length = true) (he : evl ((cs.drop off).take ti.size) = some l) (h : Rz hp (.agg l) t) : Out1 L ⟨τ, hp, N⟩ (.cell a ty) t := by
  simp only [Out1]
  refine ⟨i, b, off, tb, cs, ti, h1, h2, h3, ?_⟩
  rw [ha]
  exact ⟨Nat.le_of_ble_eq_true hl, by rw [← evl_eq he]; exact h⟩
theorem out_one {a : Tmp} {ty tb : TypeId} {i b off : Nat} {cs : List AV} {ti : TI} {v : AV} {t : T} (h1 : τ a = .ptr i b off) (h2 : hp[i]? = some (.box b tb cs)) (h3 : L.look ty = some ti) (ha : ti.agg = false) (hv : cs[off]? = some v) (h : Rz hp v t) : Out1 L ⟨τ, hp, N⟩ (.cell a ty) t := by
  simp only [Out1]
  refine ⟨i, b, off, tb, cs, ti, h1, h2, h3, ?_⟩
  rw [ha]
  exact ⟨v, hv, h⟩
theorem fin_n {σ : AS} {res : List ResultVar} {R : T → Prop} {ts : List T} (h : Outs L σ res ts) (hR : R (outT ts)) : Fin L res R .normal σ := ⟨⟨.inl rfl, ts, h, hR⟩⟩
theorem fin_r {σ : AS} {res : List ResultVar} {R : T → Prop} {ts : List T} (h : Outs L σ res ts) (hR : R (outT ts)) : Fin L res R .ret σ := ⟨⟨.inr rfl, ts, h, hR⟩⟩
theorem af_enter {f : FuncId} {fn : Func} {c : Code} {args : List T} {asq : List AV} {R : T → Prop} {N : Nat} {res : List ResultVar} (hL : TabOk P L) (hf : P.funcs[f]? = some fn) (hNt : fn.ntmps = N) (hres : fn.results = res.toArray) (hb : fn.body = some c) (hn : (fn.name == "runtime.NumGoroutine") = false) (ha : evl (args.map .c) = some asq) (hN : Nat.ble asq.length N = true)
    (h : ∀ F, (∀ b, ¬ F.X b) → AC P F c (Fin L res R) ⟨initT N asq, [], N⟩) : AF P f args R := by
  refine af_of hL hf hb hn ?_ fun F hX => ?_
  · have := Nat.le_of_ble_eq_true hN
    rw [evl_eq ha] at this
    rw [hNt]; simpa using this
  · rw [hNt, hres, ← evl_eq ha]; exact h F hX
end
section
variable {F : Frm} {τ : Nat → AV} {hp : List Blk} {N : Nat}
def frB (M : Mm) (g : Option Nat) (w : World) : Mm := fun p =>
  match M p with
  | some v => some v
  | none => if g = some p.block then (w.cell? p).bind fun v => if v.oneCell' = true then some v else none else none
theorem frB_sub (M : Mm) (g : Option Nat) (w : World) : Sub M (frB M g w) := fun p v h => by simp [frB, h]
theorem frB_new {M : Mm} {g : Option Nat} {w : World} {p : Addr} {v : Value} (hp : frB M g w p = some v) (hn : M p = none) : g = some p.block ∧ w.cell? p = some v ∧ v.oneCell' = true := by
  unfold frB at hp
  rw [hn] at hp
  simp only at hp
  split at hp
  · rename_i hg
    refine ⟨hg, ?_⟩
    cases hc : w.cell? p with
    | none => rw [hc] at hp; simp at hp
    | some u =>
      rw [hc] at hp
      simp only [Option.bind_some] at hp
      split at hp
      · injection hp with hp; subst hp; exact ⟨rfl, by assumption⟩
      · cases hp
  · cases hp
theorem heap_frz {M : Mm} {w : World} (hh : HeapOk F M hp w) {i : Nat} {v : Value} {e : TypeId} {sz n : Nat} {ts : List T} (hi : hp[i]? = some (.row v e sz n ts)) :
    HeapOk F (frB M v.ownBlock w) (hp.set i .dead) w ∧ RT (frB M v.ownBlock w) (.row n sz ts) v := by
  have hsub := frB_sub M v.ownBlock w
  have hlt : i < hp.length := (List.getElem?_eq_some_iff.1 hi).1
  have hget : ∀ (j : Nat) (x : Blk), (hp.set i .dead)[j]? = some x → (j = i ∧ x = .dead) ∨ (j ≠ i ∧ hp[j]? = some x) := by
    intro j x hx
    by_cases hj : j = i
    · subst hj
      rw [List.getElem?_set_self hlt] at hx
      exact .inl ⟨rfl, by injection hx with hx; exact hx.symm⟩
    · rw [List.getElem?_set_ne (Ne.symm hj)] at hx
      exact .inr ⟨hj, hx⟩
  refine ⟨⟨?_, ?_, hh.frm, ?_, ?_, ?_⟩, ?_⟩
  · intro p u hp
    cases hc : M p with
    | none => exact (frB_new hp hc).2
    | some u' =>
      have := hsub p u' hc
      rw [hp] at this
      obtain rfl : u = u' := by injection this
      exact hh.mem p u hc
  · refine ⟨fun p u hp => hsub p u (hh.ext.1 p u hp), fun p u hp => ?_⟩
    cases hc : M p with
    | none =>
      obtain ⟨hg, _⟩ := frB_new hp hc
      exact .inr (hh.out i _ p.block hi hg).1
    | some u' =>
      have := hsub p u' hc
      rw [hp] at this
      obtain rfl : u = u' := by injection this
      exact hh.ext.2 p u hc
  · intro j x hx
    rcases hget j x hx with ⟨_, rfl⟩ | ⟨_, hx⟩
    · trivial
    · exact (hh.at_ j x hx).keep hsub fun _ _ _ => rfl
  · intro j k x y b hx hy hxb hyb
    rcases hget j x hx with ⟨_, rfl⟩ | ⟨_, hx⟩
    · simp [Blk.blk] at hxb
    · rcases hget k y hy with ⟨_, rfl⟩ | ⟨_, hy⟩
      · simp [Blk.blk] at hyb
      · exact hh.sep j k x y b hx hy hxb hyb
  · intro j x b hx hxb
    rcases hget j x hx with ⟨_, rfl⟩ | ⟨hj, hx⟩
    · simp [Blk.blk] at hxb
    · obtain ⟨h1, h2⟩ := hh.out j x b hx hxb
      refine ⟨h1, fun p hp => ?_⟩
      cases hc : frB M v.ownBlock w p with
      | none => rfl
      | some u =>
        obtain ⟨hg, _⟩ := frB_new hc (h2 p hp)
        exact absurd (hh.sep j i x _ b hx hi hxb (by rw [← hp]; exact hg)) hj
  · obtain ⟨xs, ho, hx, h1, hsz⟩ := hh.at_ i _ hi
    obtain ⟨A, c, rfl, hnc, hcm⟩ := ownO_shape ho
    simp only [RT]
    refine ⟨A, c, xs, rfl, hnc, Nat.le_trans hnc hcm, hsz, ho.1, fun hn => ?_, RTs.mono hsub _ _ hx⟩
    obtain ⟨ad, rfl⟩ := ho.some_ hn
    · refine ⟨_, rfl, fun j x hj => ?_⟩
      have hn : M (Addr.add ad j) = none := (hh.out i _ ad.block hi rfl).2 _ (by rw [add_block])
      have hc := ho.cells j x hj
      simp [frB, hn, Value.ownBlock, add_block, hc, h1 x (List.mem_of_getElem? hj)]
end
theorem flat_at {α : Type} (f : α → List T) (sz : Nat) (hf : ∀ a, (f a).length = sz) : ∀ {l : List α} {k : Nat} {x : α}, l[k]? = some x → ((l.flatMap f).drop (k * sz)).take sz = f x
  | [], _, _, h => by simp at h
  | a :: l, 0, x, h => by
    obtain rfl : a = x := by simpa using h
    rw [List.flatMap_cons, Nat.zero_mul, List.drop_zero, ← hf a, List.take_left]
  | a :: l, k + 1, x, h => by
    rw [List.flatMap_cons, List.drop_append, List.drop_eq_nil_of_le (by rw [hf, Nat.add_mul]; omega), List.nil_append, hf, show (k + 1) * sz - sz = k * sz by rw [Nat.add_mul]; omega]
    exact flat_at f sz hf (by simpa using h)
theorem flat_get {α : Type} (f : α → List T) (sz : Nat) (hf : ∀ a, (f a).length = sz) {l : List α} {k j : Nat} {x : α} (hk : l[k]? = some x) (hj : j < sz) : (l.flatMap f)[k * sz + j]? = (f x)[j]? := by
  rw [← flat_at f sz hf hk, List.getElem?_take, if_pos hj, List.getElem?_drop]
end Go.Proofs.YthloejmmgdjimaaDoor
namespace Go.Proofs.YthloejmmgdjimaaDoor
open Go.RowKit
section
variable {P : Program} {F : Frm} {ops : Array Oper} {md : Region.Mode} {N : Nat} {cls : Nat → Nat}
def updO (N : Nat) (d : Option Tmp) (v : AV) (τ : Nat → AV) : Nat → AV := match d with | none => τ | some d => upd N d v τ
def det (v : AV) (hp : List Blk) (v' : AV) (hp' : List Blk) : Prop := v' = v ∧ hp' = hp
/-- the guard lets it be carried out, or not -/
def GYes (ops : Array Oper) (τ : Nat → AV) (o : Oper) : Prop :=
  match o.guard with
  | none => True
  | some (g, b) => ∃ d, (ops[g]?).bind (·.dst) = some d ∧ τ d = .c (.lit (.bool b))
def GNo (ops : Array Oper) (τ : Nat → AV) (o : Oper) : Prop :=
  match o.guard with
  | none => False
  | some (g, b) => ∃ d, (ops[g]?).bind (·.dst) = some d ∧ ((∃ c, τ d = .c (.lit (.bool c)) ∧ c = !b) ∨ τ d = .c (.lit undef))
/-- what a writing operation (2), or one that makes a variable (3), does to the blocks -/
def Grows (k : Nat) (hp hp' : List Blk) : Prop := k = 2 ∨ ∃ y, hp' = hp ++ y
/-- what a looking operation yields -/
def YA (P : Program) (F : Frm) (ops : Array Oper) (k : Nat) (o : Oper) (v : AV) (τ : Nat → AV) (hp : List Blk) : Prop :=
  (GYes ops τ o ∧ (k = 0 → ∀ hp', LO P F o (evT τ) hp' (det v hp')) ∧ (k ≠ 0 → ∀ x, LO P F o (evT τ) (hp ++ x) (det v (hp ++ x)))) ∨ (GNo ops τ o ∧ v = .c (.lit undef))
def opA (P : Program) (F : Frm) (ops : Array Oper) (N : Nat) (cls : Nat → Nat) (i : Nat) (K : (Nat → AV) → List Blk → Prop) (τ : Nat → AV) (hp : List Blk) : Prop :=
  match ops[i]? with
  | none => K τ hp
  | some o =>
    if 2 ≤ cls i then (GYes ops τ o ∧ LO P F o (evT τ) hp fun v hp' => Grows (cls i) hp hp' ∧ K (updO N o.dst v τ) hp') ∨ (GNo ops τ o ∧ K (updO N o.dst (.c (.lit undef)) τ) hp)
    else ∃ v, YA P F ops (cls i) o v τ hp ∧ K (updO N o.dst v τ) hp
theorem opA_mono {i : Nat} {K K' : (Nat → AV) → List Blk → Prop} {τ : Nat → AV} {hp : List Blk} (h : ∀ τ hp, K τ hp → K' τ hp) (hh : opA P F ops N cls i K τ hp) : opA P F ops N cls i K' τ hp := by
  unfold opA at *
  split
  · exact h _ _ (by simpa [*] using hh)
  · rename_i o ho
    simp only [ho] at hh
    split
    · rename_i hc
      rw [if_pos hc] at hh
      rcases hh with ⟨h1, h2⟩ | ⟨h1, h2⟩
      · exact .inl ⟨h1, h2.mono fun _ _ h3 => ⟨h3.1, h _ _ h3.2⟩⟩
      · exact .inr ⟨h1, h _ _ h2⟩
    · rename_i hc
      rw [if_neg hc] at hh
      obtain ⟨v, h1, h2⟩ := hh
      exact ⟨v, h1, h _ _ h2⟩
def AnyA (P : Program) (F : Frm) (md : Region.Mode) (ops : Array Oper) (N : Nat) (cls : Nat → Nat) (Kf : (Nat → AV) → List Blk → Prop) : Nat → Array Bool → (Nat → AV) → List Blk → Prop
  | 0, listed, τ, hp => Region.ready md ops listed = [] ∧ Kf τ hp
  | fuel + 1, listed, τ, hp => (Region.ready md ops listed = [] → Kf τ hp) ∧ ∀ i ∈ Region.ready md ops listed, opA P F ops N cls i (AnyA P F md ops N cls Kf fuel (listed.setIfInBounds i true)) τ hp
theorem gyes_wanted {M : Mm} {τ : Nat → AV} {hp : List Blk} {a : Act} {w : World} (hr : Rep F M ⟨τ, hp, N⟩ a w) {o : Oper} (h : GYes ops τ o) : Region.wanted o (yielded ops a.tmps) = true := by
  unfold GYes at h
  unfold Region.wanted
  split
  · rfl
  · rename_i g b hg
    rw [hg] at h
    obtain ⟨d, h1, h2⟩ := h
    rw [yielded_of hr h1 h2]
    simp
theorem gno_wanted {M : Mm} {τ : Nat → AV} {hp : List Blk} {a : Act} {w : World} (hr : Rep F M ⟨τ, hp, N⟩ a w) {o : Oper} (h : GNo ops τ o) : Region.wanted o (yielded ops a.tmps) = false := by
  unfold GNo at h
  unfold Region.wanted
  split
  · rename_i hg; rw [hg] at h; exact h.elim
  · rename_i g b hg
    rw [hg] at h
    obtain ⟨d, h1, ⟨c, h2, h3⟩ | h2⟩ := h
    · rw [yielded_of hr h1 h2, h3]
      cases b <;> simp
    · rw [yielded_un hr h1 h2]
      rfl
theorem rep_upd {M M' : Mm} {τ : Nat → AV} {hp hp' : List Blk} {a : Act} {w w' : World} (hr : Rep F M ⟨τ, hp, N⟩ a w) (hs : Sub M M') (hh : HeapOk F M' hp' w') (d : Option Tmp) {v : AV} {u : Value} (hv : RA M' v u) : Rep F M' ⟨updO N d v τ, hp', N⟩ (a.put d u) w' := by
  have := hr.st hs hh d hv
  cases d <;> exact this
theorem wpOp_of_A {Q : Exit → Act → World → Prop} {i : Nat} {K : (Nat → AV) → List Blk → Prop} {K' : Act → World → Prop} {τ : Nat → AV} {hp : List Blk} {M : Mm} {a : Act} {w : World} (hr : Rep F M ⟨τ, hp, N⟩ a w)
    (hk : ∀ M' τ' hp' a' w', K τ' hp' → Rep F M' ⟨τ', hp', N⟩ a' w' → K' a' w') (h : opA P F ops N cls i K τ hp) : wpOp P ops Q i K' a w := by
  unfold opA at h
  unfold wpOp
  split
  · rename_i ho; simp only [ho] at h; exact hk _ _ _ _ _ h hr
  · rename_i o ho
    simp only [ho] at h
    have key : ∀ K2 : AV → List Blk → Prop, GYes ops τ o → LO P F o (evT τ) hp K2 → (∀ v hp', K2 v hp' → K (updO N o.dst v τ) hp') → (if Region.wanted o (yielded ops a.tmps) = true then o.wp P a w K' Q ∨ (o.asks P a w ∧ LetsOut Q) else K' (a.put o.dst undef) w) := by
      intro K2 hg hl h2
      rw [if_pos (gyes_wanted hr hg)]
      refine .inl ((hl.out M a.eval w (fun x _ => by have := hr.ev x; rwa [evT_eq] at this) hr.heap).wp Q fun u w' ⟨M', v, hp', g1, g2, g3, g4⟩ => hk _ _ _ _ _ (h2 v hp' g1) (rep_upd hr g2.sub g3 _ g4))
    have keyn : GNo ops τ o → K (updO N o.dst (.c (.lit undef)) τ) hp → (if Region.wanted o (yielded ops a.tmps) = true then o.wp P a w K' Q ∨ (o.asks P a w ∧ LetsOut Q) else K' (a.put o.dst undef) w) := by
      intro hg h2
      rw [if_neg (by rw [gno_wanted hr hg]; simp)]
      exact hk _ _ _ _ _ h2 (rep_upd hr (Sub.refl _) hr.heap _ (by simp only [RA, RT]))
    by_cases hc : 2 ≤ cls i
    · rw [if_pos hc] at h
      rcases h with ⟨h1, h2⟩ | ⟨h1, h2⟩
      · exact key _ h1 h2 fun _ _ h => h.2
      · exact keyn h1 h2
    · rw [if_neg hc] at h
      obtain ⟨v, h1, h2⟩ := h
      rcases h1 with ⟨hg, h3, h4⟩ | ⟨hg, rfl⟩
      · have hl : LO P F o (evT τ) hp (det v hp) := by
          by_cases h0 : cls i = 0
          · exact h3 h0 hp
          · have := h4 h0 []; rwa [List.append_nil] at this
        exact key _ hg hl fun v' hp' ⟨e1, e2⟩ => by rw [e1, e2]; exact h2
      · exact keyn hg h2
theorem wpAny_of_A {Kf : (Nat → AV) → List Blk → Prop} {Q : Exit → Act → World → Prop} (hQ : ∀ M τ hp a w, Kf τ hp → Rep F M ⟨τ, hp, N⟩ a w → Q .normal a w) : ∀ (fuel : Nat) (listed : Array Bool) (τ : Nat → AV) (hp : List Blk) (M : Mm) (a : Act) (w : World), Rep F M ⟨τ, hp, N⟩ a w →
    AnyA P F md ops N cls Kf fuel listed τ hp → wpAny P md ops Q fuel listed a w
  | 0, _, _, _, _, _, _, hr, h => ⟨h.1, hQ _ _ _ _ _ h.2 hr⟩
  | fuel + 1, _, _, _, _, _, _, hr, h => ⟨fun h0 => hQ _ _ _ _ _ (h.1 h0) hr, fun i hi => wpOp_of_A hr (fun M' τ' hp' a' w' h' hr' => wpAny_of_A hQ fuel _ τ' hp' M' a' w' hr' h') (h.2 i hi)⟩
theorem updO_comm {d d' : Option Tmp} {v v' : AV} {τ : Nat → AV} (h : ∀ x, d = some x → d' ≠ some x) : updO N d v (updO N d' v' τ) = updO N d' v' (updO N d v τ) := by
  cases d with
  | none => rfl
  | some x =>
    cases d' with
    | none => rfl
    | some y =>
      funext i
      simp only [updO, upd]
      cases hx : Nat.beq i x with
      | false => simp
      | true =>
        cases hy : Nat.beq i y with
        | false => simp
        | true =>
          have := Nat.eq_of_beq_eq_true hx
          have := Nat.eq_of_beq_eq_true hy
          subst_vars
          exact absurd rfl (h _ rfl)
theorem updO_far {d : Option Tmp} {v : AV} {τ : Nat → AV} {i : Nat} (h : d ≠ some i) : updO N d v τ i = τ i := by
  cases d with
  | none => rfl
  | some x =>
    simp only [updO, upd]
    have : Nat.beq i x = false := by
      cases hc : Nat.beq i x with
      | false => rfl
      | true => exact absurd (congrArg some (Nat.eq_of_beq_eq_true hc).symm) h
    rw [this]; rfl
theorem mem_looks {o : Oper} {t : Tmp} (h : Operand.tmp t ∈ o.op.operands.toList) : t ∈ o.looksAt ops := by
  unfold Oper.looksAt
  refine List.mem_append_left _ (List.mem_filterMap.2 ⟨_, h, rfl⟩)
theorem evT_far {d : Option Tmp} {v : AV} {τ : Nat → AV} {o : Oper} (h : ∀ x, d = some x → x ∉ o.looksAt ops) : ∀ x ∈ o.op.operands.toList, evT (updO N d v τ) x = evT τ x := by
  intro x hx
  cases x with
  | tmp t => exact updO_far fun e => h t e (mem_looks hx)
  | _ => rfl
theorem look_guard {o : Oper} {g : Nat} {b : Bool} (hg : o.guard = some (g, b)) {x : Tmp} (hx : (ops[g]?).bind (·.dst) = some x) : x ∈ o.looksAt ops := by
  unfold Oper.looksAt
  refine List.mem_append_right _ ?_
  rw [hg]
  simp [hx]
theorem gyes_far {d : Option Tmp} {v : AV} {τ : Nat → AV} {o : Oper} (h : ∀ x, d = some x → x ∉ o.looksAt ops) : GYes ops (updO N d v τ) o ↔ GYes ops τ o := by
  unfold GYes
  split
  · exact Iff.rfl
  · rename_i g b hg
    constructor
    · rintro ⟨x, h1, h2⟩
      exact ⟨x, h1, by rwa [updO_far fun e => h x e (look_guard hg h1)] at h2⟩
    · rintro ⟨x, h1, h2⟩
      exact ⟨x, h1, by rwa [updO_far fun e => h x e (look_guard hg h1)]⟩
theorem gno_far {d : Option Tmp} {v : AV} {τ : Nat → AV} {o : Oper} (h : ∀ x, d = some x → x ∉ o.looksAt ops) : GNo ops (updO N d v τ) o ↔ GNo ops τ o := by
  unfold GNo
  split
  · exact Iff.rfl
  · rename_i g b hg
    constructor
    · rintro ⟨x, h1, h2⟩
      exact ⟨x, h1, by rwa [updO_far fun e => h x e (look_guard hg h1)] at h2⟩
    · rintro ⟨x, h1, h2⟩
      exact ⟨x, h1, by rwa [updO_far fun e => h x e (look_guard hg h1)]⟩
theorem YA.far {k : Nat} {o : Oper} {v u : AV} {d : Option Tmp} {τ : Nat → AV} {hp hp' : List Blk} (hy : YA P F ops k o v τ hp) (h : ∀ x, d = some x → x ∉ o.looksAt ops) (hh : k = 0 ∨ ∃ y, hp' = hp ++ y) : YA P F ops k o v (updO N d u τ) hp' := by
  rcases hy with ⟨h1, h2, h3⟩ | ⟨h1, h2⟩
  · refine .inl ⟨(gyes_far h).2 h1, fun h0 hq => (h2 h0 hq).congr (evT_far h), fun h0 x => ?_⟩
    rcases hh with hh | ⟨y, rfl⟩
    · exact absurd hh h0
    · rw [List.append_assoc]; exact (h3 h0 (y ++ x)).congr (evT_far h)
  · exact .inr ⟨(gno_far h).2 h1, h2⟩
theorem YA.back {k : Nat} {o : Oper} {v u : AV} {d : Option Tmp} {τ : Nat → AV} {hp : List Blk} (hy : YA P F ops k o v (updO N d u τ) hp) (h : ∀ x, d = some x → x ∉ o.looksAt ops) : YA P F ops k o v τ hp := by
  rcases hy with ⟨h1, h2, h3⟩ | ⟨h1, h2⟩
  · exact .inl ⟨(gyes_far h).1 h1, fun h0 hq => (h2 h0 hq).congr (fun x hx => (evT_far h x hx).symm), fun h0 x => (h3 h0 x).congr (fun x hx => (evT_far h x hx).symm)⟩
  · exact .inr ⟨(gno_far h).1 h1, h2⟩
/-- oj, apart from the looking oi, before it -/
theorem opA_put {i j : Nat} {oi oj : Oper} {v : AV} (hj : ops[j]? = some oj) (hap : oi.apart ops oj = true) (hcl : cls j = 2 → cls i = 0) {K : (Nat → AV) → List Blk → Prop} {τ : Nat → AV} {hp : List Blk}
    (hy : YA P F ops (cls i) oi v τ hp) (h : opA P F ops N cls j K (updO N oi.dst v τ) hp) :
    opA P F ops N cls j (fun τ' hp' => YA P F ops (cls i) oi v τ' hp' ∧ K (updO N oi.dst v τ') hp') τ hp := by
  obtain ⟨h1, h2, h3⟩ := Oper.apart_spec hap
  have hcomm : ∀ u, updO N oj.dst u (updO N oi.dst v τ) = updO N oi.dst v (updO N oj.dst u τ) := fun u => updO_comm (fun x hx e => h2 x e hx)
  unfold opA at *
  simp only [hj] at *
  by_cases hc : 2 ≤ cls j
  · rw [if_pos hc] at h ⊢
    rcases h with ⟨hg, hl⟩ | ⟨hg, hk⟩
    · refine .inl ⟨(gyes_far h1).1 hg, (hl.mono fun u hp' hk => ⟨hk.1, hy.far h3 ?_, ?_⟩).congr fun x hx => (evT_far h1 x hx).symm⟩
      · exact hk.1.imp hcl id
      · rw [← hcomm]; exact hk.2
    · refine .inr ⟨(gno_far h1).1 hg, hy.far h3 (.inr ⟨[], by simp⟩), ?_⟩
      rw [← hcomm]; exact hk
  · rw [if_neg hc] at h ⊢
    obtain ⟨u, hu, hk⟩ := h
    refine ⟨u, hu.back h1, hy.far h3 (.inr ⟨[], by simp⟩), ?_⟩
    rw [← hcomm]; exact hk
/-- j waits for i, directly or not -/
def reachB (md : Region.Mode) (ops : Array Oper) : Nat → Nat → Nat → Bool
  | 0, _, _ => false
  | f + 1, j, i => match ops[j]? with
    | some oj => oj.after.any fun e => Region.binds md e && (e.on == i || reachB md ops f e.on i)
    | none => false
def ClosedL (md : Region.Mode) (ops : Array Oper) (listed : Array Bool) : Prop :=
  ∀ j oj, ops[j]? = some oj → listed.getD j false = true → ∀ e ∈ oj.after, Region.binds md e = true → listed.getD e.on false = true
theorem reach_un {listed : Array Bool} (hc : ClosedL md ops listed) {i : Nat} (hi : listed.getD i false = false) : ∀ (f j : Nat), reachB md ops f j i = true → ∀ oj, ops[j]? = some oj → ∃ e ∈ oj.after, Region.binds md e = true ∧ listed.getD e.on false = false
  | 0, _, h, _, _ => by cases h
  | f + 1, j, h, oj, hj => by
    unfold reachB at h
    rw [hj] at h
    obtain ⟨e, he, hb⟩ := Array.any_eq_true'.1 h
    simp only [Bool.and_eq_true, Bool.or_eq_true, beq_iff_eq] at hb
    refine ⟨e, he, hb.1, ?_⟩
    rcases hb.2 with h2 | h2
    · rw [h2]; exact hi
    · cases hl : listed.getD e.on false with
      | false => rfl
      | true =>
        cases ho : ops[e.on]? with
        | none =>
          cases f with
          | zero => cases h2
          | succ f => unfold reachB at h2; rw [ho] at h2; cases h2
        | some oe =>
          obtain ⟨e', he', hb', hun⟩ := reach_un hc hi f e.on h2 oe ho
          rw [hc e.on oe ho hl e' he' hb'] at hun
          cases hun
theorem reach_not_ready {listed : Array Bool} (hc : ClosedL md ops listed) {i j f : Nat} (hi : listed.getD i false = false) (h : reachB md ops f j i = true) : j ∉ Region.ready md ops listed := by
  intro hr
  obtain ⟨_, oj, hoj, hall⟩ := mem_ready.1 hr
  obtain ⟨e, he, hb, hun⟩ := reach_un hc hi f j h oj hoj
  rw [hall e he hb] at hun
  cases hun
theorem ClosedL.set {listed : Array Bool} (hc : ClosedL md ops listed) {i : Nat} (hi : i ∈ Region.ready md ops listed) : ClosedL md ops (listed.setIfInBounds i true) := by
  obtain ⟨_, oi, hoi, hall⟩ := mem_ready.1 hi
  intro j oj hj hl e he hb
  by_cases hij : i = j
  · subst hij
    have : oj = oi := Option.some.inj (hj.symm.trans hoi)
    subst this
    exact getD_set_true (hall e he hb)
  · rw [getD_set_ne false hij] at hl
    exact getD_set_true (hc j oj hj hl e he hb)
/-- what must hold of all others, for a looking operation to be taken first -/
def freeA (md : Region.Mode) (ops : Array Oper) (cls : Nat → Nat) (listed : Array Bool) (i : Nat) : Bool :=
  match ops[i]? with
  | none => false
  | some oi => (List.range ops.size).all fun j => j == i || listed.getD j true || reachB md ops ops.size j i ||
      (match ops[j]? with | some oj => oi.apart ops oj && (cls j != 2 || cls i == 0) | none => true)
theorem getD_false_of {listed : Array Bool} {i : Nat} (h : listed.getD i true = false) : listed.getD i false = false := by
  rcases Nat.lt_or_ge i listed.size with h' | h'
  · simp [h'] at h ⊢; exact h
  · simp [Array.getElem?_eq_none h'] at h
theorem anyA_first {Kf : (Nat → AV) → List Blk → Prop} {i : Nat} {oi : Oper} {v : AV} (hi : ops[i]? = some oi) :
    ∀ (fuel : Nat) (listed : Array Bool) (τ : Nat → AV) (hp : List Blk), ClosedL md ops listed →
      (∀ j oj, ops[j]? = some oj → j ≠ i → listed.getD j true = false → reachB md ops ops.size j i = false → oi.apart ops oj = true ∧ (cls j = 2 → cls i = 0)) →
      i ∈ Region.ready md ops listed → YA P F ops (cls i) oi v τ hp → ¬ 2 ≤ cls i →
      AnyA P F md ops N cls Kf fuel (listed.setIfInBounds i true) (updO N oi.dst v τ) hp → AnyA P F md ops N cls Kf (fuel + 1) listed τ hp := by
  have self : ∀ {K : (Nat → AV) → List Blk → Prop} {τ : Nat → AV} {hp : List Blk}, YA P F ops (cls i) oi v τ hp → ¬ 2 ≤ cls i → K (updO N oi.dst v τ) hp → opA P F ops N cls i K τ hp := by
    intro K τ hp hy h2 hk
    unfold opA
    simp only [hi]
    rw [if_neg h2]
    exact ⟨v, hy, hk⟩
  intro fuel
  induction fuel with
  | zero =>
    intro listed τ hp _ _ hr hy h2 H
    refine ⟨fun h => (by rw [h] at hr; cases hr), fun j hj => ?_⟩
    by_cases hji : j = i
    · subst hji; exact self hy h2 H
    · have := ready_mono hj hji
      rw [H.1] at this
      cases this
  | succ fuel ih =>
    intro listed τ hp hcl hfree hr hy h2 H
    refine ⟨fun h => (by rw [h] at hr; cases hr), fun j hj => ?_⟩
    by_cases hji : j = i
    · subst hji; exact self hy h2 H
    · have h1 := H.2 j (ready_mono hj hji)
      obtain ⟨hjun, oj, hoj, hall⟩ := mem_ready.1 hj
      have hiun := getD_false_of (mem_ready.1 hr).1
      have hnr : reachB md ops ops.size j i = false := by
        cases hc : reachB md ops ops.size j i with
        | false => rfl
        | true => exact absurd hj (reach_not_ready hcl hiun hc)
      obtain ⟨hap, hcc⟩ := hfree j oj hoj hji hjun hnr
      have h3 := opA_put hoj hap hcc hy h1
      have hfree' : ∀ k ok, ops[k]? = some ok → k ≠ i → (listed.setIfInBounds j true).getD k true = false → reachB md ops ops.size k i = false → oi.apart ops ok = true ∧ (cls k = 2 → cls i = 0) := fun k ok hk hki hun hno => by
        refine hfree k ok hk hki ?_ hno
        by_cases hjk : j = k
        · subst hjk; exact hjun
        · rw [getD_set_ne true hjk] at hun; exact hun
      refine opA_mono (fun τ' hp' h4 => ih (listed.setIfInBounds j true) τ' hp' (hcl.set hj) hfree' (ready_mono hr (Ne.symm hji)) h4.1 h2 ?_) h3
      rw [Array.setIfInBounds_comm _ _ hji]
      exact h4.2
/-- the order of the walk, checked -/
def ordB (md : Region.Mode) (ops : Array Oper) (cls : Nat → Nat) : List Nat → Array Bool → Bool
  | [], listed => (Region.ready md ops listed).isEmpty
  | i :: r, listed => (if 2 ≤ cls i then decide (Region.ready md ops listed = [i]) else (Region.ready md ops listed).contains i && freeA md ops cls listed i) && ordB md ops cls r (listed.setIfInBounds i true)
def WO (P : Program) (F : Frm) (ops : Array Oper) (N : Nat) (cls : Nat → Nat) (Kf : (Nat → AV) → List Blk → Prop) : List Nat → (Nat → AV) → List Blk → Prop
  | [], τ, hp => Kf τ hp
  | i :: r, τ, hp => opA P F ops N cls i (WO P F ops N cls Kf r) τ hp
theorem anyA_ord {Kf : (Nat → AV) → List Blk → Prop} : ∀ (r : List Nat) (listed : Array Bool) (τ : Nat → AV) (hp : List Blk), ClosedL md ops listed → ordB md ops cls r listed = true → WO P F ops N cls Kf r τ hp → AnyA P F md ops N cls Kf r.length listed τ hp
  | [], listed, τ, hp, _, hB, h => ⟨by simpa [ordB] using hB, h⟩
  | i :: r, listed, τ, hp, hc, hB, h => by
    simp only [ordB, Bool.and_eq_true] at hB
    obtain ⟨hB1, hB2⟩ := hB
    by_cases h2 : 2 ≤ cls i
    · rw [if_pos h2] at hB1
      have hr := of_decide_eq_true hB1
      refine ⟨fun h0 => (by rw [hr] at h0; cases h0), fun j hj => ?_⟩
      have : j = i := by rw [hr] at hj; simpa using hj
      subst this
      exact opA_mono (fun τ' hp' h' => anyA_ord r _ τ' hp' (hc.set hj) hB2 h') h
    · rw [if_neg h2] at hB1
      simp only [Bool.and_eq_true] at hB1
      obtain ⟨hr, hf⟩ := hB1
      have hr' : i ∈ Region.ready md ops listed := by simpa using hr
      obtain ⟨_, oi, hoi, _⟩ := mem_ready.1 hr'
      have h' := h
      simp only [WO] at h'
      unfold opA at h'
      simp only [hoi] at h'
      rw [if_neg h2] at h'
      obtain ⟨v, hy, hk⟩ := h'
      refine anyA_first hoi r.length listed τ hp hc ?_ hr' hy h2 (anyA_ord r _ _ _ (hc.set hr') hB2 hk)
      intro j oj hj hji hun hno
      unfold freeA at hf
      rw [hoi] at hf
      have := List.all_eq_true.1 hf j (List.mem_range.2 (Array.getElem?_eq_some_iff.1 hj).1)
      rw [hj] at this
      simp only [hun, hno, Bool.or_false, Bool.or_eq_true, beq_iff_eq, hji, false_or, Bool.and_eq_true, bne_iff_ne] at this
      exact ⟨this.1, fun e => by rcases this.2 with h | h; exact absurd e h; exact h⟩
end
section
variable {P : Program} {F : Frm} {τ : Nat → AV} {hp : List Blk} {N : Nat} {Q : Exit → AS → Prop} {id : Nat} {l : List Oper}
def clsOf (c : List Nat) (i : Nat) : Nat := c.getD i 1
/-- a region that draws its order, walked in the order r; c: the classes -/
theorem ac_draw (c r : List Nat) (hm : P.follows .mixedOrders = true) (hB : (ordB .any l.toArray (clsOf c) r (Array.replicate l.toArray.size false) && Nat.beq r.length l.length) = true)
    (h : WO P F l.toArray N (clsOf c) (fun τ' hp' => Q .normal ⟨τ', hp', N⟩) r τ hp) : AC P F (.region id l.toArray true) Q ⟨τ, hp, N⟩ := by
  refine ⟨fun M a w hr => ?_⟩
  simp only [Bool.and_eq_true] at hB
  have hlen := Nat.eq_of_beq_eq_true hB.2
  have hrd : Rep F M ⟨τ, hp, N⟩ a { w with drawn := w.drawn + 1 } := ⟨hr.tmps, hr.size, hr.defers, hr.heap.drew⟩
  have hcl : ClosedL .any l.toArray (Array.replicate l.toArray.size false) := fun j oj _ hl => by rw [getD_replicate_false] at hl; cases hl
  refine wp_region_any hm ?_
  have H := wpAny_of_A (Q := fun e a' w' => ∃ M' σ', Q e σ' ∧ Rep F M' σ' a' w') (fun M τ hp a w hk hr => ⟨M, _, hk, hr⟩) _ _ _ _ _ _ _ hrd (anyA_ord r _ τ hp hcl hB.1 h)
  rwa [hlen, show l.length = l.toArray.size by simp] at H
end
section
variable {P : Program} {F : Frm} {ops : Array Oper} {N : Nat} {cls : Nat → Nat} {Kf : (Nat → AV) → List Blk → Prop} {τ : Nat → AV} {hp : List Blk} {r : List Nat} {i : Nat} {d : Option Tmp} {op : Op} {ty : TypeId} {pos : String} {aft : Array Edge} {g : Nat} {b c : Bool} {dg t : Tmp}
theorem w_nil (h : Kf τ hp) : WO P F ops N cls Kf [] τ hp := h
/-- looks, and leaves the blocks -/
theorem w_q {v : AV} (ho : ops[i]? = some ⟨d, op, ty, pos, aft, none⟩) (hc : Nat.beq (cls i) 1 = true) (hl : ∀ x, LO P F ⟨d, op, ty, pos, aft, none⟩ (evT τ) (hp ++ x) (det v (hp ++ x))) (h : WO P F ops N cls Kf r (updO N d v τ) hp) : WO P F ops N cls Kf (i :: r) τ hp := by
  have hc := Nat.eq_of_beq_eq_true hc
  simp only [WO]
  unfold opA
  simp only [ho]
  rw [if_neg (by omega)]
  exact ⟨v, .inl ⟨trivial, fun h0 => by omega, fun _ => hl⟩, h⟩
/-- does not look at the blocks -/
theorem w_p {v : AV} (ho : ops[i]? = some ⟨d, op, ty, pos, aft, none⟩) (hc : Nat.beq (cls i) 0 = true) (hl : ∀ hp', LO P F ⟨d, op, ty, pos, aft, none⟩ (evT τ) hp' (det v hp')) (h : WO P F ops N cls Kf r (updO N d v τ) hp) : WO P F ops N cls Kf (i :: r) τ hp := by
  have hc := Nat.eq_of_beq_eq_true hc
  simp only [WO]
  unfold opA
  simp only [ho]
  rw [if_neg (by omega)]
  exact ⟨v, .inl ⟨trivial, fun _ => hl, fun h0 => absurd hc h0⟩, h⟩
/-- writes -/
theorem w_l (ho : ops[i]? = some ⟨d, op, ty, pos, aft, none⟩) (hc : Nat.beq (cls i) 2 = true) (hl : LO P F ⟨d, op, ty, pos, aft, none⟩ (evT τ) hp fun v hp' => WO P F ops N cls Kf r (updO N d v τ) hp') : WO P F ops N cls Kf (i :: r) τ hp := by
  have hc := Nat.eq_of_beq_eq_true hc
  simp only [WO]
  unfold opA
  simp only [ho]
  rw [if_pos (by omega)]
  exact .inl ⟨trivial, hl.mono fun _ _ h => ⟨.inl hc, h⟩⟩
/-- makes a variable -/
theorem w_a (ho : ops[i]? = some ⟨d, op, ty, pos, aft, none⟩) (hc : Nat.beq (cls i) 3 = true) (hl : LO P F ⟨d, op, ty, pos, aft, none⟩ (evT τ) hp fun v hp' => (∃ y, hp' = hp ++ y) ∧ WO P F ops N cls Kf r (updO N d v τ) hp') : WO P F ops N cls Kf (i :: r) τ hp := by
  have hc := Nat.eq_of_beq_eq_true hc
  simp only [WO]
  unfold opA
  simp only [ho]
  rw [if_pos (by omega)]
  exact .inl ⟨trivial, hl.mono fun _ _ h => ⟨.inr h.1, h.2⟩⟩
theorem det_refl {v : AV} {hp : List Blk} : det v hp v hp := ⟨rfl, rfl⟩
theorem w_qg {v : AV} (ho : ops[i]? = some ⟨d, op, ty, pos, aft, some (g, b)⟩) (hc : Nat.beq (cls i) 1 = true) (hd : (ops[g]?).bind (·.dst) = some dg) (hv : τ dg = .c (.lit (.bool c))) (hcb : c = b) (hl : ∀ x, LO P F ⟨d, op, ty, pos, aft, some (g, b)⟩ (evT τ) (hp ++ x) (det v (hp ++ x))) (h : WO P F ops N cls Kf r (updO N d v τ) hp) : WO P F ops N cls Kf (i :: r) τ hp := by
  have hc := Nat.eq_of_beq_eq_true hc
  subst hcb
  simp only [WO]
  unfold opA
  simp only [ho]
  rw [if_neg (by omega)]
  exact ⟨v, .inl ⟨⟨dg, hd, hv⟩, fun h0 => by omega, fun _ => hl⟩, h⟩
theorem w_no (ho : ops[i]? = some ⟨d, op, ty, pos, aft, some (g, b)⟩) (hc : Nat.ble (cls i) 1 = true) (hd : (ops[g]?).bind (·.dst) = some dg) (hv : τ dg = .c (.lit (.bool c))) (hcb : c = !b) (h : WO P F ops N cls Kf r (updO N d (.c (.lit undef)) τ) hp) : WO P F ops N cls Kf (i :: r) τ hp := by
  have hc := Nat.le_of_ble_eq_true hc
  simp only [WO]
  unfold opA
  simp only [ho]
  rw [if_neg (by omega)]
  exact ⟨_, .inr ⟨⟨dg, hd, .inl ⟨c, hv, hcb⟩⟩, rfl⟩, h⟩
theorem w_un (ho : ops[i]? = some ⟨d, op, ty, pos, aft, some (g, b)⟩) (hc : Nat.ble (cls i) 1 = true) (hd : (ops[g]?).bind (·.dst) = some dg) (hv : τ dg = .c (.lit undef)) (h : WO P F ops N cls Kf r (updO N d (.c (.lit undef)) τ) hp) : WO P F ops N cls Kf (i :: r) τ hp := by
  have hc := Nat.le_of_ble_eq_true hc
  simp only [WO]
  unfold opA
  simp only [ho]
  rw [if_neg (by omega)]
  exact ⟨_, .inr ⟨⟨dg, hd, .inr hv⟩, rfl⟩, h⟩
end
end Go.Proofs.YthloejmmgdjimaaDoor
namespace Go.Proofs.YthloejmmgdjimaaDoor
open Go.RowKit
mutual
def Rz2 (hp : List Blk) : AV → T → Prop
  | .ptr i b off, t' => ∃ ty cs ts, hp[i]? = some (.box b ty cs) ∧ Rzs hp cs ts ∧ t' = .pin ts off
  | .fn f cap, t' => ∃ ts, t' = .fn f ts ∧ Rz2s hp cap ts
  | .c t, t' => Rz hp (.c t) t'
  | .own i v, t' => Rz hp (.own i v) t'
  | .agg cs, t' => Rz hp (.agg cs) t'
  | .tup cs, t' => Rz hp (.tup cs) t'
  | .eptr _ _ _, _ => False
  | .junk, _ => False
def Rz2s (hp : List Blk) : List AV → List T → Prop
  | [], ts => ts = []
  | a :: asq, ts => ∃ t r, ts = t :: r ∧ Rz2 hp a t ∧ Rz2s hp asq r
end
section
variable {hp : List Blk}
theorem rz2_ptr {i b off : Nat} {ty : TypeId} {cs : List AV} {ts : List T} (h : hp[i]? = some (.box b ty cs)) (h' : Rzs hp cs ts) : Rz2 hp (.ptr i b off) (.pin ts off) := by simp only [Rz2]; exact ⟨ty, cs, ts, h, h', rfl⟩
theorem rz2_fn {f : Fn} {cs : List AV} {ts : List T} (h : Rz2s hp cs ts) : Rz2 hp (.fn f cs) (.fn f ts) := by simp only [Rz2]; exact ⟨ts, rfl, h⟩
theorem rz2_c {t t' : T} (h : Rz hp (.c t) t') : Rz2 hp (.c t) t' := by simp only [Rz2]; exact h
theorem rz2_own {i : Nat} {v : Value} {t' : T} (h : Rz hp (.own i v) t') : Rz2 hp (.own i v) t' := by simp only [Rz2]; exact h
theorem rz2_agg {cs : List AV} {t' : T} (h : Rz hp (.agg cs) t') : Rz2 hp (.agg cs) t' := by simp only [Rz2]; exact h
theorem rz2s_nil : Rz2s hp [] [] := by simp only [Rz2s]
theorem rz2s_cons {a : AV} {asq : List AV} {t : T} {ts : List T} (h : Rz2 hp a t) (h' : Rz2s hp asq ts) : Rz2s hp (a :: asq) (t :: ts) := by simp only [Rz2s]; exact ⟨t, ts, rfl, h, h'⟩
theorem rzs_self : ∀ {ts : List T}, Rzs hp (ts.map .c) ts
  | [] => by simp only [List.map_nil, Rzs]
  | t :: ts => by simp only [List.map_cons, Rzs]; exact ⟨t, ts, rfl, rz_c, rzs_self⟩
end
section
variable {P : Program} {F : Frm}
mutual
theorem rz2_sound {M : Mm} {hp : List Blk} {w : World} (h : HeapOk F M hp w) {B : Nat} (hB : ∀ (i : Nat) x b, hp[i]? = some x → x.blk = some b → B ≤ b) : ∀ (av : AV) (t : T) (u : Value), Rz2 hp av t → RA M av u → RT (frz M B w) t u
  | .ptr i b off, t', u, hz, hr => by
    simp only [Rz2] at hz
    obtain ⟨ty, cs, ts, h1, h2, rfl⟩ := hz
    simp only [RA] at hr
    subst hr
    obtain ⟨xs, hh, hx, hone⟩ := h.at_ i _ h1
    simp only [RT]
    refine ⟨⟨b, 0, none⟩, xs, by unfold Addr.add; split <;> simp_all, fun j x hj => ?_, rzs_sound h hB _ _ _ h2 hx⟩
    have hadd : (⟨b, 0, none⟩ : Addr).add j = ⟨b, j, none⟩ := by unfold Addr.add; split <;> simp_all
    rw [hadd]
    refine frz_new ((h.out i _ b h1 rfl).2 _ rfl) (hB i _ b h1 rfl) ?_ (hone x (List.mem_of_getElem? hj))
    rw [cell_of_row _ b j _ _ _ hh]
    simpa using hj
  | .fn f cap, t', u, hz, hr => by
    simp only [Rz2] at hz
    obtain ⟨ts, rfl, h1⟩ := hz
    simp only [RA] at hr
    obtain ⟨xs, rfl, h2⟩ := hr
    simp only [RT]
    exact ⟨xs, rfl, rz2s_sound h hB cap ts xs h1 h2⟩
  | .c t, t', u, hz, hr => by simp only [Rz2] at hz; exact rz_sound h hB _ _ _ hz hr
  | .own i v, t', u, hz, hr => by simp only [Rz2] at hz; exact rz_sound h hB _ _ _ hz hr
  | .agg cs, t', u, hz, hr => by simp only [Rz2] at hz; exact rz_sound h hB _ _ _ hz hr
  | .tup cs, t', u, hz, hr => by simp only [Rz2] at hz; exact rz_sound h hB _ _ _ hz hr
  | .eptr _ _ _, _, _, hz, _ => by simp only [Rz2] at hz
  | .junk, _, _, hz, _ => by simp only [Rz2] at hz
theorem rz2s_sound {M : Mm} {hp : List Blk} {w : World} (h : HeapOk F M hp w) {B : Nat} (hB : ∀ (i : Nat) x b, hp[i]? = some x → x.blk = some b → B ≤ b) : ∀ (asq : List AV) (ts : List T) (us : List Value), Rz2s hp asq ts → RAs M asq us → RTs (frz M B w) ts us
  | [], ts, us, hz, hr => by
    simp only [Rz2s] at hz
    simp only [RAs] at hr
    subst hz; subst hr
    simp only [RTs]
  | a :: asq, ts, us, hz, hr => by
    simp only [Rz2s] at hz
    obtain ⟨t, r, rfl, h1, h2⟩ := hz
    simp only [RAs] at hr
    obtain ⟨x, xs, rfl, h3, h4⟩ := hr
    simp only [RTs]
    exact ⟨x, xs, rfl, rz2_sound h hB a t x h1 h3, rz2s_sound h hB asq r xs h2 h4⟩
end
variable {d : Option Tmp} {ty : TypeId} {pos : String} {aft : Array Edge} {g : Option (Nat × Bool)} {ρ : Operand → AV} {hp : List Blk} {K : AV → List Blk → Prop}
theorem v_peek {f : FuncId} {y : Operand} {xs : List Operand} {ats : Array TypeId} {ts : List T} {R : T → Prop} {cap : List AV} (hc : AF P f ts R) (hy : ρ y = .fn (.func f) cap) (hx : Rz2s hp (xs.map ρ ++ cap) ts) (h : ∀ r, R r → flatT r = true ∧ K (.c r) hp) : LO P F ⟨d, .call { callee := .value y, args := xs.toArray, argTypes := ats }, ty, pos, aft, g⟩ ρ hp K := by
  refine ⟨fun M e w he hh => ?_⟩
  obtain ⟨hf, hcall⟩ := hc
  have h1 := he y (by simp [Op.operands, Call.operands])
  rw [hy] at h1
  simp only [RA] at h1
  obtain ⟨cs, hu, hcs⟩ := h1
  rw [run_call hf hu]
  have hargs := rz2s_sound hh (B := 0) (fun _ _ _ _ _ => Nat.zero_le _) _ _ _ hx ((ev_all xs (fun x hx => he x (by simp [Op.operands, Call.operands, hx]))).app hcs)
  refine (hcall _ w _ hh.glob (frz_ok hh.mem 0) hargs).mono ?_
  rintro en w' ⟨v, r, M', rfl, hR, _, _, hrt, hb⟩
  exact ⟨v, rfl, M, _, hp, (h r hR).2, Ext.refl _ _, hh.below hb (Ext.refl _ _) (hh.mem.below hb), by simp only [RA]; exact flat_any _ _ (h r hR).1 hrt⟩
end
attribute [irreducible] Rz2 Rz2s
/-- the place of the first that p holds of, or -1 -/
def idxI {α : Type} (p : α → Bool) (l : List α) : Int := match l.findIdx? p with | some i => (i : Int) | none => -1
theorem idxI_cons {α : Type} (p : α → Bool) (a : α) (l : List α) : idxI p (a :: l) = if p a then 0 else (if idxI p l < 0 then -1 else idxI p l + 1) := by
  unfold idxI
  rw [List.findIdx?_cons]
  cases hp : p a with
  | true => simp
  | false =>
    cases h : l.findIdx? p with
    | none => simp
    | some i => simp; omega
/-- at place k: not found before -/
def idxAt {α : Type} (p : α → Bool) (l : List α) (k : Nat) : Prop := idxI p l = if idxI p (l.drop k) < 0 then -1 else idxI p (l.drop k) + k
theorem idxAt_zero {α : Type} (p : α → Bool) (l : List α) : idxAt p l 0 := by
  unfold idxAt
  rw [List.drop_zero]
  split
  · rename_i h
    unfold idxI at *
    split
    · rename_i i hi; rw [hi] at h; simp only at h; omega
    · rfl
  · simp
theorem idxAt_no {α : Type} {p : α → Bool} {l : List α} {k : Nat} {a : α} (h : idxAt p l k) (ha : l[k]? = some a) (hp : p a = false) : idxAt p l (k + 1) := by
  unfold idxAt at *
  obtain ⟨h1, rfl⟩ := List.getElem?_eq_some_iff.1 ha
  rw [List.drop_eq_getElem_cons h1, idxI_cons, hp] at h
  rw [h]
  simp only [Bool.false_eq_true, if_false]
  by_cases hc : idxI p (l.drop (k + 1)) < 0
  · simp [hc]
  · simp only [hc, if_false]
    rw [if_neg (by omega)]
    omega
theorem idxAt_yes {α : Type} {p : α → Bool} {l : List α} {k : Nat} {a : α} (h : idxAt p l k) (ha : l[k]? = some a) (hp : p a = true) : idxI p l = k := by
  unfold idxAt at h
  obtain ⟨h1, rfl⟩ := List.getElem?_eq_some_iff.1 ha
  rw [List.drop_eq_getElem_cons h1, idxI_cons, hp] at h
  simpa using h
theorem idxAt_end {α : Type} {p : α → Bool} {l : List α} (h : idxAt p l l.length) : idxI p l = -1 := by
  unfold idxAt at h
  rw [List.drop_length] at h
  simpa [idxI] using h
theorem idxI_any {α : Type} (p : α → Bool) (l : List α) : decide (0 ≤ idxI p l) = l.any p := by
  induction l with
  | nil => simp [idxI]
  | cons a l ih =>
    rw [idxI_cons, List.any_cons, ← ih]
    cases hp : p a with
    | true => simp
    | false =>
      by_cases hc : idxI p l < 0
      · simp [hc]
      · simp [hc]; omega
end Go.Proofs.YthloejmmgdjimaaDoor
