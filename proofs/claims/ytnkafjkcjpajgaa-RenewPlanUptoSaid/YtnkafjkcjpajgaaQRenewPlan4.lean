/-
  Texts of this proof, part 4: Ab11 Ab12 Ab13 Ab14 Tab Ab15.
-/
import Derived.Test.YtnkafjkcjpajgaaQRenewPlan3
import Derived.Lib.AppendStr
import Derived.Lib.AppendZerosOnto
import Derived.Lib.MinMax
import Derived.Test.YtnkafjkcjpajgaaProg
namespace Go.Proofs.Ytnkafjkcjpajgaa
open Go.RowKit
mutual
def Rz2 (hp : List Blk) : AV → T → Prop
  | .ptr i b off, t' => ∃ ty cs ts, hp[i]? = some (.box b ty cs) ∧ Rzs hp cs ts ∧ t' = .pin ts off
  | .fn f cap, t' => ∃ ts, t' = .fn f ts ∧ Rz2s hp cap ts
  | .c t, t' => Rz hp (.c t) t'
  | .own i v, t' => Rz hp (.own i v) t'
  | .agg cs, t' => Rz hp (.agg cs) t'
  | .tup cs, t' => Rz hp (.tup cs) t'
  | .eptr _ _ _, _ => False
  | .junk, _ => False
def Rz2s (hp : List Blk) : List AV → List T → Prop
  | [], ts => ts = []
  | a :: asq, ts => ∃ t r, ts = t :: r ∧ Rz2 hp a t ∧ Rz2s hp asq r
end
section
variable {hp : List Blk}
theorem rz2_ptr {i b off : Nat} {ty : TypeId} {cs : List AV} {ts : List T} (h : hp[i]? = some (.box b ty cs)) (h' : Rzs hp cs ts) : Rz2 hp (.ptr i b off) (.pin ts off) := by simp only [Rz2]; exact ⟨ty, cs, ts, h, h', rfl⟩
theorem rz2_fn {f : Fn} {cs : List AV} {ts : List T} (h : Rz2s hp cs ts) : Rz2 hp (.fn f cs) (.fn f ts) := by simp only [Rz2]; exact ⟨ts, rfl, h⟩
theorem rz2_c {t t' : T} (h : Rz hp (.c t) t') : Rz2 hp (.c t) t' := by simp only [Rz2]; exact h
theorem rz2_own {i : Nat} {v : Value} {t' : T} (h : Rz hp (.own i v) t') : Rz2 hp (.own i v) t' := by simp only [Rz2]; exact h
theorem rz2_agg {cs : List AV} {t' : T} (h : Rz hp (.agg cs) t') : Rz2 hp (.agg cs) t' := by simp only [Rz2]; exact h
theorem rz2s_nil : Rz2s hp [] [] := by simp only [Rz2s]
theorem rz2s_cons {a : AV} {asq : List AV} {t : T} {ts : List T} (h : Rz2 hp a t) (h' : Rz2s hp asq ts) : Rz2s hp (a :: asq) (t :: ts) := by simp only [Rz2s]; exact ⟨t, ts, rfl, h, h'⟩
theorem rzs_self : ∀ {ts : List T}, Rzs hp (ts.map .c) ts
  | [] => by simp only [List.map_nil, Rzs]
  | t :: ts => by simp only [List.map_cons, Rzs]; exact ⟨t, ts, rfl, rz_c, rzs_self⟩
end
section
variable {P : Program} {F : Frm}
mutual
theorem rz2_sound {M : Mm} {hp : List Blk} {w : World} (h : HeapOk F M hp w) {B : Nat} (hB : ∀ (i : Nat) x b, hp[i]? = some x → x.blk = some b → B ≤ b) : ∀ (av : AV) (t : T) (u : Value), Rz2 hp av t → RA M av u → RT (frz M B w) t u
  | .ptr i b off, t', u, hz, hr => by
    simp only [Rz2] at hz
    obtain ⟨ty, cs, ts, h1, h2, rfl⟩ := hz
    simp only [RA] at hr
    subst hr
    obtain ⟨xs, hh, hx, hone⟩ := h.at_ i _ h1
    simp only [RT]
    refine ⟨⟨b, 0, none⟩, xs, by unfold Addr.add; split <;> simp_all, fun j x hj => ?_, rzs_sound h hB _ _ _ h2 hx⟩
    have hadd : (⟨b, 0, none⟩ : Addr).add j = ⟨b, j, none⟩ := by unfold Addr.add; split <;> simp_all
    rw [hadd]
    refine frz_new ((h.out i _ b h1 rfl).2 _ rfl) (hB i _ b h1 rfl) ?_ (hone x (List.mem_of_getElem? hj))
    rw [cell_of_row _ b j _ _ _ hh]
    simpa using hj
  | .fn f cap, t', u, hz, hr => by
    simp only [Rz2] at hz
    obtain ⟨ts, rfl, h1⟩ := hz
    simp only [RA] at hr
    obtain ⟨xs, rfl, h2⟩ := hr
    simp only [RT]
    exact ⟨xs, rfl, rz2s_sound h hB cap ts xs h1 h2⟩
  | .c t, t', u, hz, hr => by simp only [Rz2] at hz; exact rz_sound h hB _ _ _ hz hr
  | .own i v, t', u, hz, hr => by simp only [Rz2] at hz; exact rz_sound h hB _ _ _ hz hr
  | .agg cs, t', u, hz, hr => by simp only [Rz2] at hz; exact rz_sound h hB _ _ _ hz hr
  | .tup cs, t', u, hz, hr => by simp only [Rz2] at hz; exact rz_sound h hB _ _ _ hz hr
  | .eptr _ _ _, _, _, hz, _ => by simp only [Rz2] at hz
  | .junk, _, _, hz, _ => by simp only [Rz2] at hz
theorem rz2s_sound {M : Mm} {hp : List Blk} {w : World} (h : HeapOk F M hp w) {B : Nat} (hB : ∀ (i : Nat) x b, hp[i]? = some x → x.blk = some b → B ≤ b) : ∀ (asq : List AV) (ts : List T) (us : List Value), Rz2s hp asq ts → RAs M asq us → RTs (frz M B w) ts us
  | [], ts, us, hz, hr => by
    simp only [Rz2s] at hz
    simp only [RAs] at hr
    subst hz; subst hr
    simp only [RTs]
  | a :: asq, ts, us, hz, hr => by
    simp only [Rz2s] at hz
    obtain ⟨t, r, rfl, h1, h2⟩ := hz
    simp only [RAs] at hr
    obtain ⟨x, xs, rfl, h3, h4⟩ := hr
    simp only [RTs]
    exact ⟨x, xs, rfl, rz2_sound h hB a t x h1 h3, rz2s_sound h hB asq r xs h2 h4⟩
end
variable {d : Option Tmp} {ty : TypeId} {pos : String} {aft : Array Edge} {g : Option (Nat × Bool)} {ρ : Operand → AV} {hp : List Blk} {K : AV → List Blk → Prop}
theorem v_peek {f : FuncId} {y : Operand} {xs : List Operand} {ats : Array TypeId} {ts : List T} {R : T → Prop} {cap : List AV} (hc : AF P f ts R) (hy : ρ y = .fn (.func f) cap) (hx : Rz2s hp (xs.map ρ ++ cap) ts) (h : ∀ r, R r → flatT r = true ∧ K (.c r) hp) : LO P F ⟨d, .call { callee := .value y, args := xs.toArray, argTypes := ats }, ty, pos, aft, g⟩ ρ hp K := by
  refine ⟨fun M e w he hh => ?_⟩
  obtain ⟨hf, hcall⟩ := hc
  have h1 := he y (by simp [Op.operands, Call.operands])
  rw [hy] at h1
  simp only [RA] at h1
  obtain ⟨cs, hu, hcs⟩ := h1
  rw [run_call hf hu]
  have hargs := rz2s_sound hh (B := 0) (fun _ _ _ _ _ => Nat.zero_le _) _ _ _ hx ((ev_all xs (fun x hx => he x (by simp [Op.operands, Call.operands, hx]))).app hcs)
  refine (hcall _ w _ hh.glob (frz_ok hh.mem 0) hargs).mono ?_
  rintro en w' ⟨v, r, M', rfl, hR, _, _, hrt, hb⟩
  exact ⟨v, rfl, M, _, hp, (h r hR).2, Ext.refl _ _, hh.below hb (Ext.refl _ _) (hh.mem.below hb), by simp only [RA]; exact flat_any _ _ (h r hR).1 hrt⟩
end
attribute [irreducible] Rz2 Rz2s
/-- the place of the first that p holds of, or -1 -/
def idxI {α : Type} (p : α → Bool) (l : List α) : Int := match l.findIdx? p with | some i => (i : Int) | none => -1
theorem idxI_cons {α : Type} (p : α → Bool) (a : α) (l : List α) : idxI p (a :: l) = if p a then 0 else (if idxI p l < 0 then -1 else idxI p l + 1) := by
  unfold idxI
  rw [List.findIdx?_cons]
  cases hp : p a with
  | true => simp
  | false =>
    cases h : l.findIdx? p with
    | none => simp
    | some i => simp; omega
/-- at place k: not found before -/
def idxAt {α : Type} (p : α → Bool) (l : List α) (k : Nat) : Prop := idxI p l = if idxI p (l.drop k) < 0 then -1 else idxI p (l.drop k) + k
theorem idxAt_zero {α : Type} (p : α → Bool) (l : List α) : idxAt p l 0 := by
  unfold idxAt
  rw [List.drop_zero]
  split
  · rename_i h
    unfold idxI at *
    split
    · rename_i i hi; rw [hi] at h; simp only at h; omega
    · rfl
  · simp
theorem idxAt_no {α : Type} {p : α → Bool} {l : List α} {k : Nat} {a : α} (h : idxAt p l k) (ha : l[k]? = some a) (hp : p a = false) : idxAt p l (k + 1) := by
  unfold idxAt at *
  obtain ⟨h1, rfl⟩ := List.getElem?_eq_some_iff.1 ha
  rw [List.drop_eq_getElem_cons h1, idxI_cons, hp] at h
  rw [h]
  simp only [Bool.false_eq_true, if_false]
  by_cases hc : idxI p (l.drop (k + 1)) < 0
  · simp [hc]
  · simp only [hc, if_false]
    rw [if_neg (by omega)]
    omega
theorem idxAt_yes {α : Type} {p : α → Bool} {l : List α} {k : Nat} {a : α} (h : idxAt p l k) (ha : l[k]? = some a) (hp : p a = true) : idxI p l = k := by
  unfold idxAt at h
  obtain ⟨h1, rfl⟩ := List.getElem?_eq_some_iff.1 ha
  rw [List.drop_eq_getElem_cons h1, idxI_cons, hp] at h
  simpa using h
theorem idxAt_end {α : Type} {p : α → Bool} {l : List α} (h : idxAt p l l.length) : idxI p l = -1 := by
  unfold idxAt at h
  rw [List.drop_length] at h
  simpa [idxI] using h
theorem idxI_any {α : Type} (p : α → Bool) (l : List α) : decide (0 ≤ idxI p l) = l.any p := by
  induction l with
  | nil => simp [idxI]
  | cons a l ih =>
    rw [idxI_cons, List.any_cons, ← ih]
    cases hp : p a with
    | true => simp
    | false =>
      by_cases hc : idxI p l < 0
      · simp [hc]
      · simp [hc]; omega
end Go.Proofs.Ytnkafjkcjpajgaa
namespace Go.Proofs.Ytnkafjkcjpajgaa
open Go.RowKit
/-- what a slot holds, laid open -/
def fc : AV → Option AV
  | .c t => some (.c t)
  | .agg cs => some (.agg cs)
  | .tup cs => some (.tup cs)
  | .fn f cap => some (.fn f cap)
  | .ptr i b off => some (.ptr i b off)
  | .own i v => some (.own i v)
  | .eptr i v k => some (.eptr i v k)
  | .junk => none
theorem fc_eq : ∀ {v u : AV}, fc v = some u → v = u
  | .c _, _, h => by injection h
  | .agg _, _, h => by injection h
  | .tup _, _, h => by injection h
  | .fn _ _, _, h => by injection h
  | .ptr _ _ _, _, h => by injection h
  | .own _ _, _, h => by injection h
  | .eptr _ _ _, _, h => by injection h
  | .junk, _, h => by cases h
section
variable {P : Program} {F : Frm} {L : Tab} {ops : Array Oper} {K : AS → Prop} {τ : Nat → AV} {hp : List Blk} {N : Nat} {rest : List Oper} {op : Op} {ty : TypeId} {pos : String} {aft : Array Edge} {g : Nat} {b c : Bool} {d t : Tmp} {σ : AS}
theorem zNil (h : K σ) : AL P F ops K [] σ := al_nil h
theorem zOp (h : LO P F ⟨some t, op, ty, pos, aft, none⟩ (evT τ) hp fun v hp' => AL P F ops K rest ⟨upd N t v τ, hp', N⟩) : AL P F ops K (⟨some t, op, ty, pos, aft, none⟩ :: rest) ⟨τ, hp, N⟩ := x_op h
theorem zOpn (h : LO P F ⟨none, op, ty, pos, aft, none⟩ (evT τ) hp fun _ hp' => AL P F ops K rest ⟨τ, hp', N⟩) : AL P F ops K (⟨none, op, ty, pos, aft, none⟩ :: rest) ⟨τ, hp, N⟩ := x_opn h
theorem zYes (h : LO P F ⟨some t, op, ty, pos, aft, some (g, b)⟩ (evT τ) hp fun v hp' => AL P F ops K rest ⟨upd N t v τ, hp', N⟩) (hd : (ops[g]?).bind (·.dst) = some d := by exact rfl) (hv : τ d = .c (.lit (.bool c)) := by exact rfl) (hc : c = b := by first | exact rfl | assumption | exact neg_t (by assumption) | exact neg_f (by assumption)) :
    AL P F ops K (⟨some t, op, ty, pos, aft, some (g, b)⟩ :: rest) ⟨τ, hp, N⟩ := x_yes hd hv hc h
theorem zYesn (h : LO P F ⟨none, op, ty, pos, aft, some (g, b)⟩ (evT τ) hp fun _ hp' => AL P F ops K rest ⟨τ, hp', N⟩) (hd : (ops[g]?).bind (·.dst) = some d := by exact rfl) (hv : τ d = .c (.lit (.bool c)) := by exact rfl) (hc : c = b := by first | exact rfl | assumption | exact neg_t (by assumption) | exact neg_f (by assumption)) :
    AL P F ops K (⟨none, op, ty, pos, aft, some (g, b)⟩ :: rest) ⟨τ, hp, N⟩ := x_yesn hd hv hc h
theorem zNo (h : AL P F ops K rest ⟨upd N t (.c (.lit undef)) τ, hp, N⟩) (hd : (ops[g]?).bind (·.dst) = some d := by exact rfl) (hv : τ d = .c (.lit (.bool c)) := by exact rfl) (hc : c = !b := by first | exact rfl | assumption | exact neg_t (by assumption) | exact neg_f (by assumption)) :
    AL P F ops K (⟨some t, op, ty, pos, aft, some (g, b)⟩ :: rest) ⟨τ, hp, N⟩ := x_no hd hv hc h
theorem zNon (h : AL P F ops K rest ⟨τ, hp, N⟩) (hd : (ops[g]?).bind (·.dst) = some d := by exact rfl) (hv : τ d = .c (.lit (.bool c)) := by exact rfl) (hc : c = !b := by first | exact rfl | assumption | exact neg_t (by assumption) | exact neg_f (by assumption)) :
    AL P F ops K (⟨none, op, ty, pos, aft, some (g, b)⟩ :: rest) ⟨τ, hp, N⟩ := x_non hd hv hc h
theorem zUn (h : AL P F ops K rest ⟨upd N t (.c (.lit undef)) τ, hp, N⟩) (hd : (ops[g]?).bind (·.dst) = some d := by exact rfl) (hv : τ d = .c (.lit undef) := by exact rfl) : AL P F ops K (⟨some t, op, ty, pos, aft, some (g, b)⟩ :: rest) ⟨τ, hp, N⟩ := x_un hd hv h
theorem zUnn (h : AL P F ops K rest ⟨τ, hp, N⟩) (hd : (ops[g]?).bind (·.dst) = some d := by exact rfl) (hv : τ d = .c (.lit undef) := by exact rfl) : AL P F ops K (⟨none, op, ty, pos, aft, some (g, b)⟩ :: rest) ⟨τ, hp, N⟩ := x_unn hd hv h
end
section
variable {P : Program} {F : Frm} {L : Tab} {τ τ' : Nat → AV} {hp hp' : List Blk} {N : Nat} {Q : Exit → AS → Prop}
theorem zT {c : Operand} {x y : Code} {t : Bool} (h : AC P F x Q ⟨τ, hp, N⟩) (hc : evT τ c = .c (.lit (.bool t)) := by exact rfl) (ht : t = true := by first | exact rfl | assumption | exact neg_t (by assumption)) : AC P F (.cond c x y) Q ⟨τ, hp, N⟩ := x_t hc ht h
theorem zF {c : Operand} {x y : Code} {t : Bool} (h : AC P F y Q ⟨τ, hp, N⟩) (hc : evT τ c = .c (.lit (.bool t)) := by exact rfl) (ht : t = false := by first | exact rfl | assumption | exact neg_f (by assumption)) : AC P F (.cond c x y) Q ⟨τ, hp, N⟩ := x_f hc ht h
end
section
variable {P : Program} {F : Frm} {L : Tab} {d : Option Tmp} {ty : TypeId} {pos : String} {aft : Array Edge} {g : Option (Nat × Bool)} {ρ : Operand → AV} {hp : List Blk} {K : AV → List Blk → Prop}
theorem zkL {t : TypeId} {x : Operand} (h : LO P F ⟨d, .load t x, ty, pos, aft, g⟩ ρ hp K) : LO P F ⟨d, .load t x, ty, pos, aft, g⟩ ρ hp K := h
theorem zkF {t : TypeId} {x : Operand} {k : Nat} (h : LO P F ⟨d, .fieldAddr t x k, ty, pos, aft, g⟩ ρ hp K) : LO P F ⟨d, .fieldAddr t x k, ty, pos, aft, g⟩ ρ hp K := h
theorem zkB {o : BinOp} {t t' : TypeId} {x y : Operand} (h : LO P F ⟨d, .binOp o t x y t', ty, pos, aft, g⟩ ρ hp K) : LO P F ⟨d, .binOp o t x y t', ty, pos, aft, g⟩ ρ hp K := h
theorem zkI {b : Builtin} {xs : Array Operand} {ts : Array TypeId} (h : LO P F ⟨d, .call { callee := .builtin b, args := xs, argTypes := ts }, ty, pos, aft, g⟩ ρ hp K) : LO P F ⟨d, .call { callee := .builtin b, args := xs, argTypes := ts }, ty, pos, aft, g⟩ ρ hp K := h
theorem zM {x : Operand} {v : AV} (h : K v hp) (hv : fc (ρ x) = some v := by exact rfl) : LO P F ⟨d, .move x, ty, pos, aft, g⟩ ρ hp K := lo_move (fc_eq hv) h
theorem zA {x : Operand} {v : AV} (h : K v hp) (hv : fc (ρ x) = some v := by exact rfl) : LO P F ⟨d, .assign x, ty, pos, aft, g⟩ ρ hp K := lo_assign (fc_eq hv) h
theorem zPt {c x y : Operand} {v : AV} {b : Bool} (h : K v hp) (hc : ρ c = .c (.lit (.bool b)) := by exact rfl) (hb : b = true := by first | exact rfl | assumption | exact neg_t (by assumption)) (hv : fc (ρ x) = some v := by exact rfl) : LO P F ⟨d, .pick c x y, ty, pos, aft, g⟩ ρ hp K := v_pick_t hc hb (fc_eq hv) h
theorem zPf {c x y : Operand} {v : AV} {b : Bool} (h : K v hp) (hc : ρ c = .c (.lit (.bool b)) := by exact rfl) (hb : b = false := by first | exact rfl | assumption | exact neg_f (by assumption)) (hv : fc (ρ y) = some v := by exact rfl) : LO P F ⟨d, .pick c x y, ty, pos, aft, g⟩ ρ hp K := v_pick_f hc hb (fc_eq hv) h
theorem zE {x : Operand} {ts : List T} {k : Nat} {t : T} (h : K (.c t) hp) (hx : ρ x = .c (.tup ts) := by exact rfl) (hk : ts[k]? = some t := by exact rfl) : LO P F ⟨d, .extract x k, ty, pos, aft, g⟩ ρ hp K := lo_extract hx hk h
theorem zEA {x : Operand} {ts : List AV} {k : Nat} {t : AV} (h : K t hp) (hx : ρ x = .tup ts := by exact rfl) (hk : ts[k]? = some t := by exact rfl) : LO P F ⟨d, .extract x k, ty, pos, aft, g⟩ ρ hp K := lo_extractA hx hk h
theorem zAl {t : TypeId} {ti : TI} {cs : List AV} {n : Nat} {hp' : Nat → List Blk} (h : ∀ b, K (.ptr n b 0) (hp' b)) (hL : TabOk P L := by exact tok) (ht : L.look t = some ti := by exact rfl) (hz : evl (ti.zero.map fun v => AV.c (.lit v)) = some cs := by exact rfl) (hn : lenU hp = some n := by exact rfl) (hf : ∀ b, evl (hp ++ [.box b t cs]) = some (hp' b) := by exact fun _ => rfl) : LO P F ⟨d, .alloc t, ty, pos, aft, g⟩ ρ hp K := v_alloc hL ht hz hn hf h
theorem zBx {t : TypeId} {x : Operand} {v : AV} {cs : List AV} {n : Nat} {hp' : Nat → List Blk} (h : ∀ b, K (.ptr n b 0) (hp' b)) (hv : fc (ρ x) = some v := by exact rfl) (hc : evl (cellsA v) = some cs := by exact rfl) (h1 : allOne cs = true := by first | exact rfl | assumption) (hn : lenU hp = some n := by exact rfl) (hf : ∀ b, evl (hp ++ [.box b t cs]) = some (hp' b) := by exact fun _ => rfl) : LO P F ⟨d, .box t x, ty, pos, aft, g⟩ ρ hp K := v_box (fc_eq hv) hc h1 hn hf h
theorem zS {t : TypeId} {ti : TI} {x y : Operand} {i b off : Nat} {tb : TypeId} {cs vs cs' : List AV} {v : AV} {hp' : List Blk} (h : K (.c (.lit undef)) hp') (hL : TabOk P L := by exact tok) (hx : ρ x = .ptr i b off := by exact rfl) (hi : hp[i]? = some (.box b tb cs) := by exact rfl) (hv : fc (ρ y) = some v := by exact rfl) (ht : L.look t = some ti := by exact rfl) (hc : evl (cellsA v) = some vs := by exact rfl) (h1 : allOne vs = true := by first | exact rfl | assumption) (hl : lenU vs = some ti.size := by exact rfl) (hb : Nat.ble (off + ti.size) cs.length = true := by exact rfl) (hs : evl (spl cs off vs) = some cs' := by exact rfl) (hf : evl (hp.set i (.box b tb cs')) = some hp' := by exact rfl) :
    LO P F ⟨d, .store t x y, ty, pos, aft, g⟩ ρ hp K := v_store hL hx hi (fc_eq hv) ht hc h1 hl hb hs hf h
theorem zL1 {t : TypeId} {ti : TI} {x : Operand} {i b off : Nat} {tb : TypeId} {cs : List AV} {v : AV} (h : K v hp) (hL : TabOk P L := by exact tok) (hx : ρ x = .ptr i b off := by exact rfl) (hi : hp[i]? = some (.box b tb cs) := by exact rfl) (ht : L.look t = some ti := by exact rfl) (ha : ti.agg = false := by exact rfl) (hv : cs[off]? = some v := by exact rfl) : LO P F ⟨d, .load t x, ty, pos, aft, g⟩ ρ hp K := lo_load_box1 hL hx hi ht ha hv h
theorem zL2 {t : TypeId} {ti : TI} {x : Operand} {i b off : Nat} {tb : TypeId} {cs l : List AV} (h : K (.agg l) hp) (hL : TabOk P L := by exact tok) (hx : ρ x = .ptr i b off := by exact rfl) (hi : hp[i]? = some (.box b tb cs) := by exact rfl) (ht : L.look t = some ti := by exact rfl) (ha : ti.agg = true := by exact rfl) (hl : Nat.ble (off + ti.size) cs.length = true := by exact rfl) (he : evl ((cs.drop off).take ti.size) = some l := by exact rfl) : LO P F ⟨d, .load t x, ty, pos, aft, g⟩ ρ hp K := v_load_box hL hx hi ht ha hl he h
theorem zL3 {t : TypeId} {ti : TI} {x : Operand} {off : Nat} {cs : List T} {v : T} (h : K (.c v) hp) (hL : TabOk P L := by exact tok) (hx : ρ x = .c (.pin cs off) := by exact rfl) (ht : L.look t = some ti := by exact rfl) (ha : ti.agg = false := by exact rfl) (hv : cs[off]? = some v := by exact rfl) : LO P F ⟨d, .load t x, ty, pos, aft, g⟩ ρ hp K := lo_load_pin1 hL hx ht ha hv h
/-- the element of a row that came in; what it is must be told -/
theorem zEl {t : TypeId} {ti : TI} {x : Operand} {off : Nat} {cs ts : List T} (hts : (cs.drop off).take ti.size = ts) (hl : ts.length = ti.size) (h : K (.c (.agg ts)) hp) (hL : TabOk P L := by exact tok) (hx : ρ x = .c (.pin cs off) := by exact rfl) (ht : L.look t = some ti := by exact rfl) (ha : ti.agg = true := by exact rfl) : LO P F ⟨d, .load t x, ty, pos, aft, g⟩ ρ hp K := lo_load_pin hL hx ht ha hts hl h
theorem zLp {t : TypeId} {ti : TI} {x : Operand} {off : Nat} {cs ts : List T} (h : K (.c (.agg ts)) hp) (hL : TabOk P L := by exact tok) (hx : ρ x = .c (.pin cs off) := by exact rfl) (ht : L.look t = some ti := by exact rfl) (ha : ti.agg = true := by exact rfl) (hts : evl ((cs.drop off).take ti.size) = some ts := by exact rfl) (hl : lenU ts = some ti.size := by exact rfl) : LO P F ⟨d, .load t x, ty, pos, aft, g⟩ ρ hp K := lo_load_pin hL hx ht ha (evl_eq hts).symm (lenU_eq hl).symm h
theorem zEl1 {t : TypeId} {ti : TI} {x : Operand} {off : Nat} {cs : List T} {v : T} (hv : cs[off]? = some v) (h : K (.c v) hp) (hL : TabOk P L := by exact tok) (hx : ρ x = .c (.pin cs off) := by exact rfl) (ht : L.look t = some ti := by exact rfl) (ha : ti.agg = false := by exact rfl) : LO P F ⟨d, .load t x, ty, pos, aft, g⟩ ρ hp K := lo_load_pin1 hL hx ht ha hv h
theorem zIx {t el : TypeId} {ti te : TI} {x y : Operand} {n sz : Nat} {cs : List T} {k : IntKind} {z : Int} (j : Nat) (hj : j < n) (h : K (.c (.pin cs (j * sz))) hp) (hL : TabOk P L := by exact tok) (hx : ρ x = .c (.row n sz cs) := by exact rfl) (hy : ρ y = .c (.lit (.int k z)) := by exact rfl) (hz : z = (j : Int) := by exact rfl) (ht : L.look t = some ti := by exact rfl) (hd : ti.d = .slice el := by exact rfl) (hte : L.look el = some te := by exact rfl) (hsz : te.size = sz := by exact rfl) : LO P F ⟨d, .indexAddr t x y, ty, pos, aft, g⟩ ρ hp K := lo_idx hL j hx hy hz hj ht hd hte hsz h
theorem zF1 {s : TypeId} {ti : TI} {fs : List (Nat × Nat)} {k o sz : Nat} {x : Operand} {i b off : Nat} (h : K (.ptr i b (off + o)) hp) (hL : TabOk P L := by exact tok) (hx : ρ x = .ptr i b off := by exact rfl) (ht : L.look s = some ti := by exact rfl) (hd : ti.d = .struct fs := by exact rfl) (hk : fs[k]? = some (o, sz) := by exact rfl) (h0 : Nat.beq sz 0 = false := by exact rfl) : LO P F ⟨d, .fieldAddr s x k, ty, pos, aft, g⟩ ρ hp K := lo_fld hL hx ht hd hk h0 h
theorem zF2 {s : TypeId} {ti : TI} {fs : List (Nat × Nat)} {k o sz : Nat} {x : Operand} {cs : List T} {off : Nat} (h : K (.c (.pin cs (off + o))) hp) (hL : TabOk P L := by exact tok) (hx : ρ x = .c (.pin cs off) := by exact rfl) (ht : L.look s = some ti := by exact rfl) (hd : ti.d = .struct fs := by exact rfl) (hk : fs[k]? = some (o, sz) := by exact rfl) (h0 : Nat.beq sz 0 = false := by exact rfl) : LO P F ⟨d, .fieldAddr s x k, ty, pos, aft, g⟩ ρ hp K := lo_fld_pin hL hx ht hd hk h0 h
theorem zF3 {s : TypeId} {ti : TI} {fs : List (Nat × Nat)} {k o sz : Nat} {x : Operand} {i : Nat} {v : Value} {off : Nat} (h : K (.eptr i v (off + o)) hp) (hL : TabOk P L := by exact tok) (hx : ρ x = .eptr i v off := by exact rfl) (ht : L.look s = some ti := by exact rfl) (hd : ti.d = .struct fs := by exact rfl) (hk : fs[k]? = some (o, sz) := by exact rfl) (h0 : Nat.beq sz 0 = false := by exact rfl) : LO P F ⟨d, .fieldAddr s x k, ty, pos, aft, g⟩ ρ hp K := lo_fld_e hL hx ht hd hk h0 h
theorem zN1 {t el : TypeId} {ti : TI} {x : Operand} {n sz : Nat} {cs : List T} (h : n ≤ 9223372036854775807 → K (.c (.lit (.int .i64 n))) hp) (hL : TabOk P L := by exact tok) (hx : ρ x = .c (.row n sz cs) := by exact rfl) (ht : L.look t = some ti := by exact rfl) (hd : ti.d = .slice el := by exact rfl) : LO P F ⟨d, .call { callee := .builtin .len, args := #[x], argTypes := #[t] }, ty, pos, aft, g⟩ ρ hp K := lo_len hL hx ht hd h
theorem zN2 {t el : TypeId} {ti : TI} {x : Operand} {i n sz : Nat} {v : Value} {e' : TypeId} {cs : List T} (h : n ≤ 9223372036854775807 → K (.c (.lit (.int .i64 n))) hp) (hL : TabOk P L := by exact tok) (hx : ρ x = .own i v := by exact rfl) (hi : hp[i]? = some (.row v e' sz n cs) := by exact rfl) (ht : L.look t = some ti := by exact rfl) (hd : ti.d = .slice el := by exact rfl) : LO P F ⟨d, .call { callee := .builtin .len, args := #[x], argTypes := #[t] }, ty, pos, aft, g⟩ ρ hp K := lo_len_own hL hx hi ht hd h
theorem zN3 {t : TypeId} {ti : TI} {x : Operand} {s : ByteArray} (h : K (.c (.lit (.int .i64 s.size))) hp) (hL : TabOk P L := by exact tok) (hx : ρ x = .c (.lit (.string s)) := by exact rfl) (ht : L.look t = some ti := by exact rfl) (hd : ti.d = .string := by exact rfl) : LO P F ⟨d, .call { callee := .builtin .len, args := #[x], argTypes := #[t] }, ty, pos, aft, g⟩ ρ hp K := lo_len_str hL hx ht hd h
theorem zN4 {t el : TypeId} {ti : TI} {x : Operand} (h : K (.c (.lit (.int .i64 0))) hp) (hL : TabOk P L := by exact tok) (hx : ρ x = .c (.lit (.slice none 0 0)) := by exact rfl) (ht : L.look t = some ti := by exact rfl) (hd : ti.d = .slice el := by exact rfl) : LO P F ⟨d, .call { callee := .builtin .len, args := #[x], argTypes := #[t] }, ty, pos, aft, g⟩ ρ hp K := lo_len_nil hL hx ht hd h
theorem zAp {t el : TypeId} {ti te : TI} {x y : Operand} {i n m sz : Nat} {v : Value} {cs ts : List T} {hp' : Value → List Blk} (h : ∀ v', K (.own i v') (hp' v')) (hL : TabOk P L := by exact tok) (hx : ρ x = .own i v := by exact rfl) (hi : hp[i]? = some (.row v el sz n cs) := by exact rfl) (hy : ρ y = .c (.row m sz ts) := by exact rfl) (ht : L.look t = some ti := by exact rfl) (hd : ti.d = .slice el := by exact rfl) (hte : L.look el = some te := by exact rfl) (hsz : te.size = sz := by exact rfl) (hf : ∀ v', evl (hp.set i (.row v' el sz (n + m) (cs ++ ts))) = some (hp' v') := by exact fun _ => rfl)
    (h63 : n + m ≤ maxLen := by first | (simp only [maxLen]; omega) | (simp only [maxLen]; dsimp only at *; omega)) (hbytes : (n + m) * te.bytes ≤ 140737488355328 := by first | (simp only []; omega) | (dsimp only at *; omega)) : LO P F ⟨d, .call { callee := .builtin .append, args := #[x, y], argTypes := #[t, t] }, ty, pos, aft, g⟩ ρ hp K := v_app hL hx hi hy ht hd hte hsz hf h63 hbytes h
theorem zBd {t : TypeId} {ti : TI} {fs : List (Nat × Nat)} {parts : List (Nat × Operand)} {cs cs' : List AV} (h : K (.agg cs') hp) (hL : TabOk P L := by exact tok) (ht : L.look t = some ti := by exact rfl) (hd : ti.d = .struct fs := by exact rfl) (hf : fillA (fun i => fs[i]?) (ti.zero.map fun v => .c (.lit v)) (parts.map fun p => (p.1, ρ p.2)) = some cs := by exact rfl) (he : evl cs = some cs' := by exact rfl) : LO P F ⟨d, .build t parts.toArray, ty, pos, aft, g⟩ ρ hp K := v_build hL ht hd hf he h
theorem zBs {t el : TypeId} {ti te : TI} {n : Nat} {parts : List (Nat × Operand)} {cs cs' : List AV} {ts : List T} (h : K (.c (.row n te.size ts)) hp) (hL : TabOk P L := by exact tok) (ht : L.look t = some ti := by exact rfl) (hd : ti.d = .slice el := by exact rfl) (hte : L.look el = some te := by exact rfl) (h0 : Nat.ble 1 te.size = true := by exact rfl) (hn : Nat.ble (n * te.size) 16777216 = true := by exact rfl)
    (hf : fillA (fun i => some (i * te.size, te.size)) ((List.range (n * te.size)).map fun j => .c (.lit (te.zero.getD (j % te.size) undef))) (parts.map fun p => (p.1, ρ p.2)) = some cs := by exact rfl) (he : evl cs = some cs' := by exact rfl) (hz : Rzs [] cs' ts := by repeat (first | exact rzs_nil | apply rzs_cons | exact rz_c | exact rz_nil rfl | apply rz_agg | exact rz_own rfl | apply rz_fn | exact rz_ptr rfl | apply rz_tup)) : LO P F ⟨d, .buildSlice t n parts.toArray, ty, pos, aft, g⟩ ρ hp K := v_bslice hL ht hd hte h0 hn hf he hz h
theorem zFn {f : Fn} {cap : List Operand} {l : List AV} (h : K (.fn f l) hp) (he : evl (cap.map ρ) = some l := by exact rfl) : LO P F ⟨d, .makeFunc f #[] cap.toArray, ty, pos, aft, g⟩ ρ hp K := v_func he h
theorem zCall {f : FuncId} {y : Operand} {xs : List Operand} {ats : Array TypeId} {ts : List T} {R : T → Prop} {cap : List AV} (hc : AF P f ts R) (h : ∀ r, R r → K (.c r) hp) (hy : ρ y = .fn (.func f) cap := by exact rfl) (hx : Rzs [] (xs.map ρ ++ cap) ts := by repeat (first | exact rzs_nil | apply rzs_cons | exact rz_c | exact rz_nil rfl | apply rz_agg | exact rz_own rfl | apply rz_fn | exact rz_ptr rfl | apply rz_tup)) : LO P F ⟨d, .call { callee := .value y, args := xs.toArray, argTypes := ats }, ty, pos, aft, g⟩ ρ hp K := lo_call hc hy hx h
theorem zCallc {f : FuncId} {y : Operand} {xs : List Operand} {ats : Array TypeId} {ts cap : List T} {R : T → Prop} (hc : AF P f ts R) (h : ∀ r, R r → K (.c r) hp) (hy : ρ y = .c (.fn (.func f) cap) := by exact rfl) (hx : Rzs [] (xs.map ρ ++ cap.map .c) ts := by first | exact rzs_cons rz_c rzs_self | repeat (first | exact rzs_nil | apply rzs_cons | exact rz_c | exact rz_nil rfl | apply rz_agg | exact rz_own rfl | apply rz_fn | exact rz_ptr rfl | apply rz_tup)) : LO P F ⟨d, .call { callee := .value y, args := xs.toArray, argTypes := ats }, ty, pos, aft, g⟩ ρ hp K := v_callc hc hy hx h
theorem zPeek {f : FuncId} {y : Operand} {xs : List Operand} {ats : Array TypeId} {ts : List T} {R : T → Prop} {cap : List AV} (hc : AF P f ts R) (h : ∀ r, R r → flatT r = true ∧ K (.c r) hp) (hy : ρ y = .fn (.func f) cap := by exact rfl) (hx : Rz2s hp (xs.map ρ ++ cap) ts := by repeat (first | exact rz2s_nil | apply rz2s_cons | apply rz2_fn | (apply rz2_ptr; (focus exact rfl)) | apply rz2_c | apply rz2_own | apply rz2_agg | exact rzs_nil | apply rzs_cons | exact rz_c | exact rz_nil rfl | apply rz_agg | exact rz_own rfl | apply rz_fn | exact rz_ptr rfl | apply rz_tup)) : LO P F ⟨d, .call { callee := .value y, args := xs.toArray, argTypes := ats }, ty, pos, aft, g⟩ ρ hp K := v_peek hc hy hx h
variable {t t' : TypeId} {x y : Operand} {k : IntKind} {a b : Int} {s s' : ByteArray}
theorem zInc {n : Nat} (h : K (.c (.lit (.int .i64 ((n + 1 : Nat) : Int)))) hp) (hx : ρ x = .c (.lit (.int .i64 n)) := by exact rfl) (hy : ρ y = .c (.lit (.int .i64 1)) := by exact rfl) (hb : n < 9223372036854775807 := by first | omega | (dsimp only at *; omega)) : LO P F ⟨d, .binOp .add t x y t', ty, pos, aft, g⟩ ρ hp K := lo_inc hx hy hb h
theorem zNot {c : Bool} (h : K (.c (.lit (.bool !c))) hp) (hx : ρ x = .c (.lit (.bool c)) := by exact rfl) : LO P F ⟨d, .unOp .not t x, ty, pos, aft, g⟩ ρ hp K := lo_not hx h
theorem zC1 (h : K (.c (.lit (.bool (decide (a < b))))) hp) (hx : ρ x = .c (.lit (.int k a)) := by exact rfl) (hy : ρ y = .c (.lit (.int k b)) := by exact rfl) : LO P F ⟨d, .binOp .lss t x y t', ty, pos, aft, g⟩ ρ hp K := lo_lss hx hy h
theorem zC2 (h : K (.c (.lit (.bool (decide (a ≤ b))))) hp) (hx : ρ x = .c (.lit (.int k a)) := by exact rfl) (hy : ρ y = .c (.lit (.int k b)) := by exact rfl) : LO P F ⟨d, .binOp .leq t x y t', ty, pos, aft, g⟩ ρ hp K := lo_leq hx hy h
theorem zC3 (h : K (.c (.lit (.bool (decide (b < a))))) hp) (hx : ρ x = .c (.lit (.int k a)) := by exact rfl) (hy : ρ y = .c (.lit (.int k b)) := by exact rfl) : LO P F ⟨d, .binOp .gtr t x y t', ty, pos, aft, g⟩ ρ hp K := lo_gtr hx hy h
theorem zC4 (h : K (.c (.lit (.bool (decide (b ≤ a))))) hp) (hx : ρ x = .c (.lit (.int k a)) := by exact rfl) (hy : ρ y = .c (.lit (.int k b)) := by exact rfl) : LO P F ⟨d, .binOp .geq t x y t', ty, pos, aft, g⟩ ρ hp K := lo_geq hx hy h
theorem zC5 (h : K (.c (.lit (.bool (decide (a = b))))) hp) (hx : ρ x = .c (.lit (.int k a)) := by exact rfl) (hy : ρ y = .c (.lit (.int k b)) := by exact rfl) : LO P F ⟨d, .binOp .eql t x y t', ty, pos, aft, g⟩ ρ hp K := lo_eql hx hy h
theorem zC6 (h : K (.c (.lit (.bool (!decide (a = b))))) hp) (hx : ρ x = .c (.lit (.int k a)) := by exact rfl) (hy : ρ y = .c (.lit (.int k b)) := by exact rfl) : LO P F ⟨d, .binOp .neq t x y t', ty, pos, aft, g⟩ ρ hp K := lo_neq hx hy h
theorem zS1 (h : K (.c (.lit (.bool (strLt s s')))) hp) (hx : ρ x = .c (.lit (.string s)) := by exact rfl) (hy : ρ y = .c (.lit (.string s')) := by exact rfl) : LO P F ⟨d, .binOp .lss t x y t', ty, pos, aft, g⟩ ρ hp K := lo_lts hx hy h
theorem zS2 (h : K (.c (.lit (.bool (strLt s s' || decide (s = s'))))) hp) (hx : ρ x = .c (.lit (.string s)) := by exact rfl) (hy : ρ y = .c (.lit (.string s')) := by exact rfl) : LO P F ⟨d, .binOp .leq t x y t', ty, pos, aft, g⟩ ρ hp K := lo_les hx hy h
theorem zS3 (h : K (.c (.lit (.bool (!(strLt s s' || decide (s = s')))))) hp) (hx : ρ x = .c (.lit (.string s)) := by exact rfl) (hy : ρ y = .c (.lit (.string s')) := by exact rfl) : LO P F ⟨d, .binOp .gtr t x y t', ty, pos, aft, g⟩ ρ hp K := lo_gts hx hy h
theorem zS4 (h : K (.c (.lit (.bool (!strLt s s')))) hp) (hx : ρ x = .c (.lit (.string s)) := by exact rfl) (hy : ρ y = .c (.lit (.string s')) := by exact rfl) : LO P F ⟨d, .binOp .geq t x y t', ty, pos, aft, g⟩ ρ hp K := lo_ges hx hy h
theorem zS5 (h : K (.c (.lit (.bool (decide (s = s'))))) hp) (hx : ρ x = .c (.lit (.string s)) := by exact rfl) (hy : ρ y = .c (.lit (.string s')) := by exact rfl) : LO P F ⟨d, .binOp .eql t x y t', ty, pos, aft, g⟩ ρ hp K := lo_eqs hx hy h
theorem zS6 (h : K (.c (.lit (.bool (!decide (s = s'))))) hp) (hx : ρ x = .c (.lit (.string s)) := by exact rfl) (hy : ρ y = .c (.lit (.string s')) := by exact rfl) : LO P F ⟨d, .binOp .neq t x y t', ty, pos, aft, g⟩ ρ hp K := lo_nes hx hy h
end
section
variable {L : Tab} {σ : AS} {res : List ResultVar} {R : T → Prop} {ts : List T}
theorem zR (hR : R (outT ts)) (h : Outs L σ res ts := by repeat (first | exact outs_nil | apply outs_cons | (apply out_tmp (v := .c _); (focus exact rfl)) | (apply out_tmp (v := .own _ _); (focus exact rfl)) | (apply out_tmp (v := .agg _); (focus exact rfl)) | (apply out_tmp (v := .ptr _ _ _); (focus exact rfl)) | (apply out_tmp (v := .fn _ _); (focus exact rfl)) | (apply out_agg; (focus exact rfl); (focus exact rfl); (focus exact rfl); (focus exact rfl); (focus exact rfl); (focus exact rfl)) | (apply out_one; (focus exact rfl); (focus exact rfl); (focus exact rfl); (focus exact rfl); (focus exact rfl)) | exact rzs_nil | apply rzs_cons | exact rz_c | exact rz_nil rfl | apply rz_agg | exact rz_own rfl | apply rz_fn | exact rz_ptr rfl | apply rz_tup)) : Fin L res R .ret σ := fin_r h hR
theorem zQ (hR : R (outT ts)) (h : Outs L σ res ts := by repeat (first | exact outs_nil | apply outs_cons | (apply out_tmp (v := .c _); (focus exact rfl)) | (apply out_tmp (v := .own _ _); (focus exact rfl)) | (apply out_tmp (v := .agg _); (focus exact rfl)) | (apply out_tmp (v := .ptr _ _ _); (focus exact rfl)) | (apply out_tmp (v := .fn _ _); (focus exact rfl)) | (apply out_agg; (focus exact rfl); (focus exact rfl); (focus exact rfl); (focus exact rfl); (focus exact rfl); (focus exact rfl)) | (apply out_one; (focus exact rfl); (focus exact rfl); (focus exact rfl); (focus exact rfl); (focus exact rfl)) | exact rzs_nil | apply rzs_cons | exact rz_c | exact rz_nil rfl | apply rz_agg | exact rz_own rfl | apply rz_fn | exact rz_ptr rfl | apply rz_tup)) : Fin L res R .normal σ := fin_n h hR
end
end Go.Proofs.Ytnkafjkcjpajgaa
namespace Go.Proofs.Ytnkafjkcjpajgaa
open Go.RowKit
section
variable {P : Program} {F : Frm} {L : Tab} {d : Option Tmp} {ty : TypeId} {pos : String} {aft : Array Edge} {g : Option (Nat × Bool)} {ρ : Operand → AV} {hp : List Blk} {K : AV → List Blk → Prop}
theorem RTs.set {M : Mm} : ∀ {ts : List T} {xs : List Value} (k : Nat) {t : T} {x : Value}, RTs M ts xs → RT M t x → RTs M (ts.set k t) (xs.set k x)
  | [], _, _, _, _, h, _ => by simp only [RTs] at h; subst h; simp [RTs]
  | a :: ts, _, 0, _, _, h, ht => by
    simp only [RTs] at h
    obtain ⟨x, r, rfl, h1, h2⟩ := h
    simp only [List.set_cons_zero, RTs]
    exact ⟨_, _, rfl, ht, h2⟩
  | a :: ts, _, k + 1, _, _, h, ht => by
    simp only [RTs] at h
    obtain ⟨x, r, rfl, h1, h2⟩ := h
    simp only [List.set_cons_succ, RTs]
    exact ⟨_, _, rfl, h1, RTs.set k h2 ht⟩
theorem RTs.spl {M : Mm} : ∀ {vs cs : List T} {us xs : List Value} {k : Nat}, RTs M cs xs → RTs M vs us → RTs M (spl cs k vs) (Go.Proofs.Ytnkafjkcjpajgaa.spl xs k us)
  | [], _, _, _, _, h, h' => by simp only [RTs] at h'; subst h'; exact h
  | v :: vs, cs, _, xs, k, h, h' => by
    simp only [RTs] at h'
    obtain ⟨x, r, rfl, h1, h2⟩ := h'
    exact RTs.spl (vs := vs) (cs := cs.set k v) (us := r) (xs := xs.set k x) (k := k + 1) (RTs.set k h h1) h2
end
section
variable {P : Program} {F : Frm} {L : Tab}
def OutA (L : Tab) (σ : AS) : ResultVar → AV → Prop
  | .tmp i, v => σ.tmps i = v
  | .cell a ty, v => ∃ i b off tb cs ti, σ.tmps a = .ptr i b off ∧ σ.hp[i]? = some (.box b tb cs) ∧ L.look ty = some ti ∧
      (match ti.agg with | true => off + ti.size ≤ cs.length ∧ v = .agg ((cs.drop off).take ti.size) | false => cs[off]? = some v)
def OutsA (L : Tab) (σ : AS) : List ResultVar → List AV → Prop
  | [], vs => vs = []
  | r :: rs, vs => ∃ v vs', vs = v :: vs' ∧ OutA L σ r v ∧ OutsA L σ rs vs'
def outA : List AV → AV
  | [v] => v
  | vs => .tup vs
theorem outA_sound {M : Mm} {σ : AS} {a : Act} {w : World} (hL : TabOk P L) (hr : Rep F M σ a w) {r : ResultVar} {v : AV} (ho : OutA L σ r v) :
    ∃ u, ((match r with | .tmp t => pure (a.tmps.getD t undef) | .cell a' t => do loadVar t (← asAddr (a.tmps.getD a' undef))) : Sem Value).run P w = .ok u w ∧ RA M v u := by
  cases r with
  | tmp i => exact ⟨_, rfl, by rw [← (show σ.tmps i = v from ho)]; exact hr.tmps i⟩
  | cell x ty =>
    obtain ⟨i, b, off, tb, cs, ti, h1, h2, h3, h4⟩ := ho
    have hv := hr.tmps x
    rw [h1] at hv
    simp only [RA] at hv
    simp only [hv, asAddr, Sem.run_bind, Sem.run_pure, Result.andThen_ok]
    cases hag : ti.agg with
    | true =>
      rw [hag] at h4
      obtain ⟨u, hu, hra⟩ := load_box hL hr.heap h2 h3 hag h4.1
      exact ⟨u, hu, by rw [h4.2]; exact hra⟩
    | false =>
      rw [hag] at h4
      exact load_box1 hL hr.heap h2 h3 hag h4
theorem outsA_sound {M : Mm} {σ : AS} {a : Act} {w : World} (hL : TabOk P L) (hr : Rep F M σ a w) : ∀ {rs : List ResultVar} {vs : List AV}, OutsA L σ rs vs →
    ∃ us, (rs.mapM fun r => ((match r with | .tmp t => pure (a.tmps.getD t undef) | .cell a' t => do loadVar t (← asAddr (a.tmps.getD a' undef))) : Sem Value)).run P w = .ok us w ∧ RAs M vs us
  | [], vs, ho => by
    simp only [OutsA] at ho
    subst ho
    exact ⟨[], rfl, by simp only [RAs]⟩
  | r :: rs, vs, ho => by
    simp only [OutsA] at ho
    obtain ⟨v, vs', rfl, h1, h2⟩ := ho
    obtain ⟨u, hu, hu'⟩ := outA_sound hL hr h1
    obtain ⟨us, hus, hus'⟩ := outsA_sound hL hr h2
    refine ⟨u :: us, ?_, by simp only [RAs]; exact ⟨u, us, rfl, hu', hus'⟩⟩
    simp only [List.mapM_cons, Sem.run_bind, hu, Result.andThen_ok, hus, Sem.run_pure]
theorem resultsA_sound {M : Mm} {σ : AS} {a : Act} {w : World} (hL : TabOk P L) (hr : Rep F M σ a w) {fn : Func} {vs : List AV} (ho : OutsA L σ fn.results.toList vs) :
    ∃ u, (results fn a.tmps).run P w = .ok u w ∧ RA M (outA vs) u := by
  obtain ⟨us, hus, hr⟩ := outsA_sound hL hr ho
  have hlen := hr.len
  have hm : (fn.results.mapM fun r => ((match r with | .tmp t => pure (a.tmps.getD t undef) | .cell a' t => do loadVar t (← asAddr (a.tmps.getD a' undef))) : Sem Value)).run P w = .ok us.toArray w := by
    rw [Array.mapM_eq_mapM_toList]
    rw [Sem.run_map, hus]
    rfl
  refine ⟨if h : us.toArray.size = 1 then us.toArray[0] else .tuple us.toArray, ?_, ?_⟩
  · unfold results
    simp only [Sem.run_bind, Sem.run_pure]
    erw [hm]
    rfl
  · match vs, us, hlen, hr with
    | [], [], _, hr => simp only [outA, RA]; exact ⟨[], by simp, hr⟩
    | [t], [u], _, hr =>
      simp only [RAs] at hr
      obtain ⟨x, r, e, h1, _⟩ := hr
      injection e with e _
      subst e
      simpa [outA] using h1
    | t1 :: t2 :: ts, u1 :: u2 :: us, _, hr => simp only [outA, RA]; exact ⟨u1 :: u2 :: us, by simp, hr⟩
end
end Go.Proofs.Ytnkafjkcjpajgaa
namespace Go.Proofs.Ytnkafjkcjpajgaa
open Go.RowKit
section
variable {P : Program} {F : Frm} {ops : Array Oper} {md : Region.Mode} {N : Nat} {cls : Nat → Nat}
def ordP (md : Region.Mode) (ops : Array Oper) (cls : Nat → Nat) : List Nat → Array Bool → Bool
  | [], _ => true
  | i :: r, listed => (if 2 ≤ cls i then decide (Region.ready md ops listed = [i]) else (Region.ready md ops listed).contains i && freeA md ops cls listed i) && ordP md ops cls r (listed.setIfInBounds i true)
def lst : List Nat → Array Bool → Array Bool
  | [], listed => listed
  | i :: r, listed => lst r (listed.setIfInBounds i true)
theorem ordP_closed : ∀ (r : List Nat) (listed : Array Bool), ClosedL md ops listed → ordP md ops cls r listed = true → ClosedL md ops (lst r listed)
  | [], _, h, _ => h
  | i :: r, listed, h, hB => by
    simp only [ordP, Bool.and_eq_true] at hB
    refine ordP_closed r _ (h.set ?_) hB.2
    have := hB.1
    split at this
    · rw [of_decide_eq_true this]; simp
    · simp only [Bool.and_eq_true] at this
      simpa using this.1
theorem anyA_pre {Kf : (Nat → AV) → List Blk → Prop} (n : Nat) : ∀ (r : List Nat) (listed : Array Bool) (τ : Nat → AV) (hp : List Blk), ClosedL md ops listed → ordP md ops cls r listed = true → WO P F ops N cls (fun τ hp => AnyA P F md ops N cls Kf n (lst r listed) τ hp) r τ hp → AnyA P F md ops N cls Kf (n + r.length) listed τ hp
  | [], listed, τ, hp, _, hB, h => h
  | i :: r, listed, τ, hp, hc, hB, h => by
    simp only [ordP, Bool.and_eq_true] at hB
    obtain ⟨hB1, hB2⟩ := hB
    simp only [List.length_cons, ← Nat.add_assoc]
    by_cases h2 : 2 ≤ cls i
    · rw [if_pos h2] at hB1
      have hr := of_decide_eq_true hB1
      refine ⟨fun h0 => (by rw [hr] at h0; cases h0), fun j hj => ?_⟩
      have : j = i := by rw [hr] at hj; simpa using hj
      subst this
      exact opA_mono (fun τ' hp' h' => anyA_pre n r _ τ' hp' (hc.set hj) hB2 h') h
    · rw [if_neg h2] at hB1
      simp only [Bool.and_eq_true] at hB1
      obtain ⟨hr, hf⟩ := hB1
      have hr' : i ∈ Region.ready md ops listed := by simpa using hr
      obtain ⟨_, oi, hoi, _⟩ := mem_ready.1 hr'
      have h' := h
      simp only [WO] at h'
      unfold opA at h'
      simp only [hoi] at h'
      rw [if_neg h2] at h'
      obtain ⟨v, hy, hk⟩ := h'
      refine anyA_first hoi (n + r.length) listed τ hp hc ?_ hr' hy h2 (anyA_pre n r _ _ _ (hc.set hr') hB2 hk)
      intro j oj hj hji hun hno
      unfold freeA at hf
      rw [hoi] at hf
      have := List.all_eq_true.1 hf j (List.mem_range.2 (Array.getElem?_eq_some_iff.1 hj).1)
      rw [hj] at this
      simp only [hun, hno, Bool.or_false, Bool.or_eq_true, beq_iff_eq, hji, false_or, Bool.and_eq_true, bne_iff_ne] at this
      exact ⟨this.1, fun e => by rcases this.2 with h | h; exact absurd e h; exact h⟩
theorem WO.mono {K K' : (Nat → AV) → List Blk → Prop} : ∀ (r : List Nat) {τ : Nat → AV} {hp : List Blk}, (∀ τ hp, K τ hp → K' τ hp) → WO P F ops N cls K r τ hp → WO P F ops N cls K' r τ hp
  | [], τ, hp, h, hw => h τ hp hw
  | _ :: r, _, _, h, hw => opA_mono (fun _ _ h' => WO.mono r h h') hw
theorem anyA_two {Kf : (Nat → AV) → List Blk → Prop} {i j : Nat} {r s : List Nat} {listed : Array Bool} {τ : Nat → AV} {hp : List Blk} (hc : ClosedL md ops listed) (hr : Region.ready md ops listed = [i, j]) (hl : r.length = s.length)
    (h1 : ordB md ops cls r (listed.setIfInBounds i true) = true) (h2 : ordB md ops cls s (listed.setIfInBounds j true) = true)
    (h : WO P F ops N cls Kf (i :: r) τ hp ∧ WO P F ops N cls Kf (j :: s) τ hp) : AnyA P F md ops N cls Kf (r.length + 1) listed τ hp := by
  refine ⟨fun h0 => (by rw [hr] at h0; cases h0), fun k hk => ?_⟩
  have hk' := hk
  rw [hr] at hk'
  simp only [List.mem_cons, List.not_mem_nil, or_false] at hk'
  rcases hk' with rfl | rfl
  · exact opA_mono (fun τ' hp' h' => anyA_ord r _ τ' hp' (hc.set hk) h1 h') h.1
  · rw [hl]; exact opA_mono (fun τ' hp' h' => anyA_ord s _ τ' hp' (hc.set hk) h2 h') h.2
end
section
variable {P : Program} {F : Frm} {τ : Nat → AV} {hp : List Blk} {N : Nat} {Q : Exit → AS → Prop} {id : Nat} {l : List Oper}
/-- after p, either i and then r, or j and then s -/
theorem ac_draw2 (c p : List Nat) (i : Nat) (r : List Nat) (j : Nat) (s : List Nat) (hm : P.follows .mixedOrders = true)
    (hB : (ordP .any l.toArray (clsOf c) p (Array.replicate l.toArray.size false) && decide (Region.ready .any l.toArray (lst p (Array.replicate l.toArray.size false)) = [i, j]) && ordB .any l.toArray (clsOf c) r ((lst p (Array.replicate l.toArray.size false)).setIfInBounds i true) &&
      ordB .any l.toArray (clsOf c) s ((lst p (Array.replicate l.toArray.size false)).setIfInBounds j true) && Nat.beq r.length s.length && Nat.beq (r.length + 1 + p.length) l.length) = true)
    (h : WO P F l.toArray N (clsOf c) (fun τ' hp' => WO P F l.toArray N (clsOf c) (fun τ' hp' => Q .normal ⟨τ', hp', N⟩) (i :: r) τ' hp' ∧ WO P F l.toArray N (clsOf c) (fun τ' hp' => Q .normal ⟨τ', hp', N⟩) (j :: s) τ' hp') p τ hp) : AC P F (.region id l.toArray true) Q ⟨τ, hp, N⟩ := by
  refine ⟨fun M a w hr => ?_⟩
  simp only [Bool.and_eq_true] at hB
  obtain ⟨⟨⟨⟨⟨b1, b2⟩, b3⟩, b4⟩, b5⟩, b6⟩ := hB
  have hlen := Nat.eq_of_beq_eq_true b6
  have hrd : Rep F M ⟨τ, hp, N⟩ a { w with drawn := w.drawn + 1 } := ⟨hr.tmps, hr.size, hr.defers, hr.heap.drew⟩
  have hcl : ClosedL .any l.toArray (Array.replicate l.toArray.size false) := fun j oj _ hl => by rw [getD_replicate_false] at hl; cases hl
  have hcl' := ordP_closed p _ hcl b1
  refine wp_region_any hm ?_
  have H := wpAny_of_A (Q := fun e a' w' => ∃ M' σ', Q e σ' ∧ Rep F M' σ' a' w') (fun M τ hp a w hk hr => ⟨M, _, hk, hr⟩) _ _ _ _ _ _ _ hrd
    (anyA_pre (r.length + 1) p _ τ hp hcl b1 (WO.mono p (fun τ' hp' h' => anyA_two hcl' (of_decide_eq_true b2) (Nat.eq_of_beq_eq_true b5) b3 b4 h') h))
  rwa [hlen, show l.length = l.toArray.size by simp] at H
end
section
variable {P : Program} {F : Frm} {τ : Nat → AV} {hp : List Blk} {N : Nat} {Q : Exit → AS → Prop}
/-- what a variable holds, read otherwise (nil asq an empty row) -/
theorem wk_cells (i : Nat) (ts : List T) {b : Nat} {t : TypeId} {cs : List AV} (hi : hp[i]? = some (.box b t cs)) (hz : Rzs [] cs ts) : Wk F ⟨τ, hp, N⟩ ⟨τ, hp.set i (.box b t (ts.map .c)), N⟩ := by
  intro M a w hr
  have key : ∀ (j : Nat) (y : Blk), (hp.set i (.box b t (ts.map .c)))[j]? = some y → ∃ z, hp[j]? = some z ∧ z.blk = y.blk ∧ (BlkOk M w z → BlkOk M w y) := by
    intro j y hy
    rw [List.getElem?_set] at hy
    by_cases hj : i = j
    · subst hj
      have hlt : i < hp.length := (List.getElem?_eq_some_iff.1 hi).1
      rw [if_pos rfl, if_pos hlt] at hy
      obtain rfl : Blk.box b t (ts.map .c) = y := by injection hy
      refine ⟨_, hi, rfl, ?_⟩
      rintro ⟨xs, h1, h2, h3⟩
      exact ⟨xs, h1, RAs.ofT (cls_sound _ _ _ hz h2), h3⟩
    · rw [if_neg hj] at hy
      exact ⟨y, hy, rfl, id⟩
  have hh := hr.heap
  refine ⟨M, hr.tmps, hr.size, hr.defers, hh.mem, hh.ext, hh.frm, fun i y hy => ?_, fun i j y z c hy hz h1 h2 => ?_, fun i y c hy h1 => ?_⟩
  · obtain ⟨z, h1, _, h2⟩ := key i y hy
    exact h2 (hh.at_ i z h1)
  · obtain ⟨y', g1, g2, _⟩ := key i y hy
    obtain ⟨z', g3, g4, _⟩ := key j z hz
    exact hh.sep i j y' z' c g1 g3 (by rw [g2]; exact h1) (by rw [g4]; exact h2)
  · obtain ⟨y', g1, g2, _⟩ := key i y hy
    exact hh.out i y' c g1 (by rw [g2]; exact h1)
theorem x_cells {c : Code} (i : Nat) (ts : List T) {b : Nat} {t : TypeId} {cs : List AV} {hp' : List Blk} (hq : AC P F c Q ⟨τ, hp', N⟩) (hi : hp[i]? = some (.box b t cs) := by exact rfl) (hz : Rzs [] cs ts := by repeat (first | exact rzs_nil | apply rzs_cons | exact rz_c | exact rz_nil rfl | apply rz_agg)) (hf : evl (hp.set i (.box b t (ts.map .c))) = some hp' := by exact rfl) : AC P F c Q ⟨τ, hp, N⟩ :=
  ac_wk (wk_cells i ts hi hz) (by rw [evl_eq hf] at hq; exact hq)
/-- every end of x is one of these states -/
theorem x_join {A : Type} {x y : Code} {Q' : Exit → AS → Prop} (W : List Nat) (slots : A → List (Nat × AV)) (hps : A → List Blk) (h2 : ∀ a, AC P F y Q ⟨atT τ W (slots a), hps a, N⟩) (h1 : AC P F x (thenA (fun σ => ∃ a, Wk F σ ⟨atT τ W (slots a), hps a, N⟩) Q') ⟨τ, hp, N⟩) : AC P F x (thenA (AC P F y Q) Q') ⟨τ, hp, N⟩ := by
  refine h1.mono fun e σ' h => ?_
  cases e <;> first | exact h | (obtain ⟨a, ha⟩ := h; exact ac_wk ha (h2 a))
end
end Go.Proofs.Ytnkafjkcjpajgaa
namespace Go.Proofs.Ytnkafjkcjpajgaa
set_option maxRecDepth 100000 in
def tab : Tab :=
  (.node 139 ⟨2, 40, [.string ⟨#[]⟩, .slice none 0 0], (.struct [(0, 1), (1, 1)])⟩ (.node 70 ⟨1, 24, [.slice none 0 0], (.slice 73)⟩ (.node 36 ⟨1, 8, [.nilFunc], .other⟩ (.node 17 ⟨1, 8, [.pointer none], .other⟩ (.node 9 ⟨1, 16, [.string ⟨#[]⟩], .string⟩ (.node 5 ⟨1, 1, [.int .u8 0], (.int .u8)⟩ (.node 3 ⟨1, 8, [.int .i64 0], (.int .i64)⟩ (.node 2 ⟨1, 8, [.int .i64 0], (.int .i64)⟩ (.node 1 ⟨1, 8, [.nilFunc], .other⟩ .nil .nil) .nil) (.node 4 ⟨1, 1, [.bool false], .bool⟩ .nil .nil)) (.node 7 ⟨4, 24, [.int .i64 0, .int .i64 0, .bool false, .int .u8 0], (.struct [(0, 1), (1, 1), (2, 1), (3, 1)])⟩ (.node 6 ⟨1, 1, [.int .u8 0], (.int .u8)⟩ .nil .nil) (.node 8 ⟨4, 24, [.int .i64 0, .int .i64 0, .bool false, .int .u8 0], (.struct [(0, 1), (1, 1), (2, 1), (3, 1)])⟩ .nil .nil))) (.node 13 ⟨2, 24, [.string ⟨#[]⟩, .int .u64 0], (.struct [(0, 1), (1, 1)])⟩ (.node 11 ⟨1, 16, [.string ⟨#[]⟩], .string⟩ (.node 10 ⟨1, 16, [.string ⟨#[]⟩], .string⟩ .nil .nil) (.node 12 ⟨1, 8, [.int .u64 0], (.int .u64)⟩ .nil .nil)) (.node 15 ⟨1, 8, [.pointer none], .other⟩ (.node 14 ⟨2, 24, [.string ⟨#[]⟩, .int .u64 0], (.struct [(0, 1), (1, 1)])⟩ .nil .nil) (.node 16 ⟨1, 8, [.pointer none], .other⟩ .nil .nil)))) (.node 26 ⟨1, 24, [.slice none 0 0], (.slice 89)⟩ (.node 21 ⟨1, 4, [.int .i32 0], (.int .i32)⟩ (.node 19 ⟨1, 8, [.pointer none], (.struct [(0, 1)])⟩ (.node 18 ⟨1, 8, [.pointer none], (.struct [(0, 1)])⟩ .nil .nil) (.node 20 ⟨1, 16, [.nilIface], .other⟩ .nil .nil)) (.node 23 ⟨1, 8, [.int .i64 0], (.int .i64)⟩ (.node 22 ⟨1, 24, [.slice none 0 0], (.slice 32)⟩ .nil .nil) (.node 25 ⟨1, 8, [.nilFunc], .other⟩ .nil .nil))) (.node 31 ⟨2, 16, [.int .i64 0, .int .i64 0], (.struct [(0, 1), (1, 1)])⟩ (.node 29 ⟨1, 8, [.nilFunc], .other⟩ (.node 28 ⟨1, 8, [.nilFunc], .other⟩ .nil .nil) (.node 30 ⟨1, 8, [.nilFunc], .other⟩ .nil .nil)) (.node 33 ⟨1, 8, [.nilFunc], .other⟩ (.node 32 ⟨2, 16, [.int .i64 0, .int .i64 0], (.struct [(0, 1), (1, 1)])⟩ .nil .nil) (.node 34 ⟨1, 8, [.nilFunc], .other⟩ .nil .nil))))) (.node 54 ⟨1, 8, [.nilFunc], .other⟩ (.node 45 ⟨2, 24, [.string ⟨#[]⟩, .int .i64 0], (.struct [(0, 1), (1, 1)])⟩ (.node 40 ⟨1, 8, [.nilFunc], .other⟩ (.node 38 ⟨1, 8, [.nilFunc], .other⟩ (.node 37 ⟨1, 8, [.nilFunc], .other⟩ .nil .nil) (.node 39 ⟨1, 8, [.nilFunc], .other⟩ .nil .nil)) (.node 42 ⟨1, 24, [.slice none 0 0], (.slice 49)⟩ (.node 41 ⟨1, 24, [.slice none 0 0], (.slice 46)⟩ .nil .nil) (.node 44 ⟨1, 8, [.nilFunc], .other⟩ .nil .nil))) (.node 49 ⟨3, 32, [.string ⟨#[]⟩, .int .i64 0, .int .i64 0], (.struct [(0, 1), (1, 1), (2, 1)])⟩ (.node 47 ⟨1, 8, [.nilFunc], .other⟩ (.node 46 ⟨2, 24, [.string ⟨#[]⟩, .int .i64 0], (.struct [(0, 1), (1, 1)])⟩ .nil .nil) (.node 48 ⟨3, 32, [.string ⟨#[]⟩, .int .i64 0, .int .i64 0], (.struct [(0, 1), (1, 1), (2, 1)])⟩ .nil .nil)) (.node 51 ⟨1, 24, [.slice none 0 0], (.slice 113)⟩ (.node 50 ⟨1, 8, [.nilFunc], .other⟩ .nil .nil) (.node 52 ⟨1, 24, [.slice none 0 0], (.slice 118)⟩ .nil .nil)))) (.node 62 ⟨1, 24, [.slice none 0 0], (.slice 142)⟩ (.node 58 ⟨1, 8, [.nilFunc], .other⟩ (.node 56 ⟨1, 8, [.nilFunc], .other⟩ (.node 55 ⟨1, 8, [.nilFunc], .other⟩ .nil .nil) (.node 57 ⟨1, 24, [.slice none 0 0], (.slice 9)⟩ .nil .nil)) (.node 60 ⟨1, 24, [.slice none 0 0], (.slice 135)⟩ (.node 59 ⟨1, 8, [.nilFunc], .other⟩ .nil .nil) (.node 61 ⟨1, 24, [.slice none 0 0], (.slice 140)⟩ .nil .nil))) (.node 66 ⟨8, 168, [.string ⟨#[]⟩, .int .i64 0, .slice none 0 0, .slice none 0 0, .slice none 0 0, .slice none 0 0, .slice none 0 0, .slice none 0 0], (.struct [(0, 1), (1, 1), (2, 1), (3, 1), (4, 1), (5, 1), (6, 1), (7, 1)])⟩ (.node 64 ⟨1, 24, [.slice none 0 0], (.slice 75)⟩ (.node 63 ⟨1, 24, [.slice none 0 0], (.slice 183)⟩ .nil .nil) (.node 65 ⟨8, 168, [.string ⟨#[]⟩, .int .i64 0, .slice none 0 0, .slice none 0 0, .slice none 0 0, .slice none 0 0, .slice none 0 0, .slice none 0 0], (.struct [(0, 1), (1, 1), (2, 1), (3, 1), (4, 1), (5, 1), (6, 1), (7, 1)])⟩ .nil .nil)) (.node 68 ⟨3, 48, [.int .i64 0, .string ⟨#[]⟩, .slice none 0 0], (.struct [(0, 1), (1, 1), (2, 1)])⟩ (.node 67 ⟨1, 24, [.slice none 0 0], (.slice 69)⟩ .nil .nil) (.node 69 ⟨3, 48, [.int .i64 0, .string ⟨#[]⟩, .slice none 0 0], (.struct [(0, 1), (1, 1), (2, 1)])⟩ .nil .nil)))))) (.node 104 ⟨1, 8, [.nilFunc], .other⟩ (.node 88 ⟨1, 8, [.nilFunc], .other⟩ (.node 80 ⟨1, 8, [.nilFunc], .other⟩ (.node 75 ⟨14, 248, [.string ⟨#[]⟩, .slice none 0 0, .slice none 0 0, .int .i64 0, .string ⟨#[]⟩, .slice none 0 0, .int .i64 0, .int .i64 0, .string ⟨#[]⟩, .slice none 0 0, .slice none 0 0, .slice none 0 0, .slice none 0 0, .int .i64 0], (.struct [(0, 1), (1, 1), (2, 1), (3, 3), (6, 8)])⟩ (.node 73 ⟨8, 136, [.int .i64 0, .int .i64 0, .string ⟨#[]⟩, .slice none 0 0, .slice none 0 0, .slice none 0 0, .slice none 0 0, .int .i64 0], (.struct [(0, 1), (1, 1), (2, 1), (3, 1), (4, 1), (5, 1), (6, 1), (7, 1)])⟩ (.node 72 ⟨8, 136, [.int .i64 0, .int .i64 0, .string ⟨#[]⟩, .slice none 0 0, .slice none 0 0, .slice none 0 0, .slice none 0 0, .int .i64 0], (.struct [(0, 1), (1, 1), (2, 1), (3, 1), (4, 1), (5, 1), (6, 1), (7, 1)])⟩ (.node 71 ⟨1, 24, [.slice none 0 0], (.slice 188)⟩ .nil .nil) .nil) (.node 74 ⟨14, 248, [.string ⟨#[]⟩, .slice none 0 0, .slice none 0 0, .int .i64 0, .string ⟨#[]⟩, .slice none 0 0, .int .i64 0, .int .i64 0, .string ⟨#[]⟩, .slice none 0 0, .slice none 0 0, .slice none 0 0, .slice none 0 0, .int .i64 0], (.struct [(0, 1), (1, 1), (2, 1), (3, 3), (6, 8)])⟩ .nil .nil)) (.node 77 ⟨1, 24, [.slice none 0 0], (.struct [(0, 1)])⟩ (.node 76 ⟨1, 24, [.slice none 0 0], (.slice 129)⟩ .nil .nil) (.node 78 ⟨1, 24, [.slice none 0 0], (.struct [(0, 1)])⟩ .nil .nil))) (.node 84 ⟨1, 8, [.nilFunc], .other⟩ (.node 82 ⟨1, 8, [.nilFunc], .other⟩ (.node 81 ⟨1, 8, [.nilFunc], .other⟩ .nil .nil) (.node 83 ⟨1, 8, [.nilFunc], .other⟩ .nil .nil)) (.node 86 ⟨1, 8, [.nilFunc], .other⟩ (.node 85 ⟨1, 8, [.nilFunc], .other⟩ .nil .nil) (.node 87 ⟨1, 8, [.nilFunc], .other⟩ .nil .nil)))) (.node 96 ⟨1, 8, [.nilFunc], .other⟩ (.node 92 ⟨1, 8, [.nilFunc], .other⟩ (.node 90 ⟨1, 24, [.slice none 0 0], (.slice 4)⟩ (.node 89 ⟨2, 16, [.int .i64 0, .int .i64 0], (.array 2 3)⟩ .nil .nil) (.node 91 ⟨1, 8, [.nilFunc], .other⟩ .nil .nil)) (.node 94 ⟨1, 8, [.nilFunc], .other⟩ (.node 93 ⟨1, 8, [.nilFunc], .other⟩ .nil .nil) (.node 95 ⟨1, 8, [.nilFunc], .other⟩ .nil .nil))) (.node 100 ⟨1, 8, [.nilFunc], .other⟩ (.node 98 ⟨1, 8, [.nilFunc], .other⟩ (.node 97 ⟨1, 8, [.map none], .other⟩ .nil .nil) (.node 99 ⟨1, 8, [.nilFunc], .other⟩ .nil .nil)) (.node 102 ⟨1, 8, [.nilFunc], .other⟩ (.node 101 ⟨1, 8, [.nilFunc], .other⟩ .nil .nil) (.node 103 ⟨1, 8, [.map none], .other⟩ .nil .nil))))) (.node 121 ⟨1, 8, [.nilFunc], .other⟩ (.node 112 ⟨3, 48, [.string ⟨#[]⟩, .int .i64 0, .slice none 0 0], (.struct [(0, 1), (1, 1), (2, 1)])⟩ (.node 108 ⟨1, 8, [.map none], .other⟩ (.node 106 ⟨1, 8, [.nilFunc], .other⟩ (.node 105 ⟨1, 8, [.nilFunc], .other⟩ .nil .nil) (.node 107 ⟨1, 8, [.pointer none], .other⟩ .nil .nil)) (.node 110 ⟨4, 80, [.slice none 0 0, .slice none 0 0, .map none, .slice none 0 0], (.struct [(0, 1), (1, 1), (2, 1), (3, 1)])⟩ (.node 109 ⟨4, 80, [.slice none 0 0, .slice none 0 0, .map none, .slice none 0 0], (.struct [(0, 1), (1, 1), (2, 1), (3, 1)])⟩ .nil .nil) (.node 111 ⟨1, 8, [.nilFunc], .other⟩ .nil .nil))) (.node 117 ⟨3, 32, [.string ⟨#[]⟩, .int .i64 0, .int .i64 0], (.struct [(0, 1), (1, 1), (2, 1)])⟩ (.node 115 ⟨1, 8, [.nilFunc], .other⟩ (.node 113 ⟨3, 48, [.string ⟨#[]⟩, .int .i64 0, .slice none 0 0], (.struct [(0, 1), (1, 1), (2, 1)])⟩ .nil .nil) (.node 116 ⟨1, 8, [.pointer none], .other⟩ .nil .nil)) (.node 119 ⟨1, 8, [.nilFunc], .other⟩ (.node 118 ⟨3, 32, [.string ⟨#[]⟩, .int .i64 0, .int .i64 0], (.struct [(0, 1), (1, 1), (2, 1)])⟩ .nil .nil) (.node 120 ⟨1, 8, [.nilFunc], .other⟩ .nil .nil)))) (.node 131 ⟨1, 8, [.nilFunc], .other⟩ (.node 126 ⟨1, 24, [.slice none 0 0], (.slice 150)⟩ (.node 124 ⟨1, 8, [.nilFunc], .other⟩ (.node 122 ⟨1, 8, [.nilFunc], .other⟩ .nil .nil) (.node 125 ⟨1, 8, [.nilFunc], .other⟩ .nil .nil)) (.node 128 ⟨4, 72, [.string ⟨#[]⟩, .int .i64 0, .slice none 0 0, .slice none 0 0], (.struct [(0, 1), (1, 1), (2, 1), (3, 1)])⟩ (.node 127 ⟨1, 24, [.slice none 0 0], (.slice 3)⟩ .nil .nil) (.node 129 ⟨4, 72, [.string ⟨#[]⟩, .int .i64 0, .slice none 0 0, .slice none 0 0], (.struct [(0, 1), (1, 1), (2, 1), (3, 1)])⟩ .nil .nil))) (.node 135 ⟨3, 64, [.string ⟨#[]⟩, .slice none 0 0, .slice none 0 0], (.struct [(0, 1), (1, 1), (2, 1)])⟩ (.node 133 ⟨1, 24, [.slice none 0 0], (.slice 137)⟩ (.node 132 ⟨1, 8, [.nilFunc], .other⟩ .nil .nil) (.node 134 ⟨3, 64, [.string ⟨#[]⟩, .slice none 0 0, .slice none 0 0], (.struct [(0, 1), (1, 1), (2, 1)])⟩ .nil .nil)) (.node 137 ⟨2, 40, [.string ⟨#[]⟩, .slice none 0 0], (.struct [(0, 1), (1, 1)])⟩ (.node 136 ⟨2, 40, [.string ⟨#[]⟩, .slice none 0 0], (.struct [(0, 1), (1, 1)])⟩ .nil .nil) (.node 138 ⟨1, 8, [.nilFunc], .other⟩ .nil .nil))))))) (.node 210 ⟨1, 24, [.slice none 0 0], (.slice 52)⟩ (.node 175 ⟨1, 8, [.nilFunc], .other⟩ (.node 157 ⟨1, 8, [.nilFunc], .other⟩ (.node 148 ⟨4, 56, [.int .i64 0, .int .i64 0, .string ⟨#[]⟩, .slice none 0 0], (.struct [(0, 1), (1, 1), (2, 1), (3, 1)])⟩ (.node 144 ⟨1, 8, [.nilFunc], .other⟩ (.node 142 ⟨3, 56, [.string ⟨#[]⟩, .string ⟨#[]⟩, .slice none 0 0], (.struct [(0, 1), (1, 1), (2, 1)])⟩ (.node 141 ⟨3, 56, [.string ⟨#[]⟩, .string ⟨#[]⟩, .slice none 0 0], (.struct [(0, 1), (1, 1), (2, 1)])⟩ (.node 140 ⟨2, 40, [.string ⟨#[]⟩, .slice none 0 0], (.struct [(0, 1), (1, 1)])⟩ .nil .nil) .nil) (.node 143 ⟨1, 8, [.nilFunc], .other⟩ .nil .nil)) (.node 146 ⟨1, 24, [.slice none 0 0], (.slice 148)⟩ (.node 145 ⟨1, 8, [.map none], .other⟩ .nil .nil) (.node 147 ⟨4, 56, [.int .i64 0, .int .i64 0, .string ⟨#[]⟩, .slice none 0 0], (.struct [(0, 1), (1, 1), (2, 1), (3, 1)])⟩ .nil .nil))) (.node 153 ⟨1, 8, [.nilFunc], .other⟩ (.node 150 ⟨5, 64, [.int .i64 0, .int .i64 0, .int .i64 0, .string ⟨#[]⟩, .slice none 0 0], (.struct [(0, 1), (1, 4)])⟩ (.node 149 ⟨5, 64, [.int .i64 0, .int .i64 0, .int .i64 0, .string ⟨#[]⟩, .slice none 0 0], (.struct [(0, 1), (1, 4)])⟩ .nil .nil) (.node 152 ⟨1, 8, [.nilFunc], .other⟩ .nil .nil)) (.node 155 ⟨1, 8, [.nilFunc], .other⟩ (.node 154 ⟨1, 8, [.nilFunc], .other⟩ .nil .nil) (.node 156 ⟨1, 8, [.nilFunc], .other⟩ .nil .nil)))) (.node 165 ⟨1, 8, [.nilFunc], .other⟩ (.node 161 ⟨1, 8, [.nilFunc], .other⟩ (.node 159 ⟨1, 8, [.nilFunc], .other⟩ (.node 158 ⟨1, 8, [.nilFunc], .other⟩ .nil .nil) (.node 160 ⟨1, 8, [.nilFunc], .other⟩ .nil .nil)) (.node 163 ⟨1, 24, [.slice none 0 0], (.slice 22)⟩ (.node 162 ⟨1, 8, [.int .u64 0], (.int .u64)⟩ .nil .nil) (.node 164 ⟨1, 8, [.nilFunc], .other⟩ .nil .nil))) (.node 170 ⟨1, 8, [.nilFunc], .other⟩ (.node 167 ⟨1, 8, [.nilFunc], .other⟩ (.node 166 ⟨1, 8, [.nilFunc], .other⟩ .nil .nil) (.node 168 ⟨1, 8, [.nilFunc], .other⟩ .nil .nil)) (.node 172 ⟨1, 8, [.nilFunc], .other⟩ (.node 171 ⟨1, 8, [.nilFunc], .other⟩ .nil .nil) (.node 174 ⟨1, 8, [.nilFunc], .other⟩ .nil .nil))))) (.node 192 ⟨1, 8, [.nilFunc], .other⟩ (.node 183 ⟨15, 272, [.string ⟨#[]⟩, .slice none 0 0, .slice none 0 0, .slice none 0 0, .int .i64 0, .string ⟨#[]⟩, .slice none 0 0, .int .i64 0, .int .i64 0, .string ⟨#[]⟩, .slice none 0 0, .slice none 0 0, .slice none 0 0, .slice none 0 0, .int .i64 0], (.struct [(0, 1), (1, 1), (2, 1), (3, 1), (4, 3), (7, 8)])⟩ (.node 179 ⟨17, 344, [.string ⟨#[]⟩, .int .i64 0, .slice none 0 0, .slice none 0 0, .slice none 0 0, .slice none 0 0, .slice none 0 0, .slice none 0 0, .string ⟨#[]⟩, .int .i64 0, .slice none 0 0, .slice none 0 0, .slice none 0 0, .slice none 0 0, .slice none 0 0, .slice none 0 0, .map none], (.struct [(0, 8), (8, 8), (16, 1)])⟩ (.node 177 ⟨1, 8, [.pointer none], .other⟩ (.node 176 ⟨1, 8, [.nilFunc], .other⟩ .nil .nil) (.node 178 ⟨1, 8, [.map none], .other⟩ .nil .nil)) (.node 181 ⟨1, 8, [.nilFunc], .other⟩ (.node 180 ⟨17, 344, [.string ⟨#[]⟩, .int .i64 0, .slice none 0 0, .slice none 0 0, .slice none 0 0, .slice none 0 0, .slice none 0 0, .slice none 0 0, .string ⟨#[]⟩, .int .i64 0, .slice none 0 0, .slice none 0 0, .slice none 0 0, .slice none 0 0, .slice none 0 0, .slice none 0 0, .map none], (.struct [(0, 8), (8, 8), (16, 1)])⟩ .nil .nil) (.node 182 ⟨15, 272, [.string ⟨#[]⟩, .slice none 0 0, .slice none 0 0, .slice none 0 0, .int .i64 0, .string ⟨#[]⟩, .slice none 0 0, .int .i64 0, .int .i64 0, .string ⟨#[]⟩, .slice none 0 0, .slice none 0 0, .slice none 0 0, .slice none 0 0, .int .i64 0], (.struct [(0, 1), (1, 1), (2, 1), (3, 1), (4, 3), (7, 8)])⟩ .nil .nil))) (.node 187 ⟨12, 192, [.int .i64 0, .int .i64 0, .string ⟨#[]⟩, .slice none 0 0, .int .i64 0, .int .i64 0, .string ⟨#[]⟩, .slice none 0 0, .slice none 0 0, .slice none 0 0, .slice none 0 0, .int .i64 0], (.struct [(0, 4), (4, 8)])⟩ (.node 185 ⟨4, 56, [.int .i64 0, .int .i64 0, .string ⟨#[]⟩, .slice none 0 0], (.struct [(0, 1), (1, 1), (2, 1), (3, 1)])⟩ (.node 184 ⟨1, 24, [.slice none 0 0], (.slice 186)⟩ .nil .nil) (.node 186 ⟨4, 56, [.int .i64 0, .int .i64 0, .string ⟨#[]⟩, .slice none 0 0], (.struct [(0, 1), (1, 1), (2, 1), (3, 1)])⟩ .nil .nil)) (.node 189 ⟨1, 8, [.nilFunc], .other⟩ (.node 188 ⟨12, 192, [.int .i64 0, .int .i64 0, .string ⟨#[]⟩, .slice none 0 0, .int .i64 0, .int .i64 0, .string ⟨#[]⟩, .slice none 0 0, .slice none 0 0, .slice none 0 0, .slice none 0 0, .int .i64 0], (.struct [(0, 4), (4, 8)])⟩ .nil .nil) (.node 190 ⟨1, 8, [.nilFunc], .other⟩ .nil .nil)))) (.node 201 ⟨1, 8, [.nilFunc], .other⟩ (.node 197 ⟨1, 8, [.nilFunc], .other⟩ (.node 194 ⟨1, 8, [.nilFunc], .other⟩ (.node 193 ⟨1, 8, [.nilFunc], .other⟩ .nil .nil) (.node 195 ⟨1, 8, [.int .i64 0], (.int .i64)⟩ .nil .nil)) (.node 199 ⟨1, 8, [.nilFunc], .other⟩ (.node 198 ⟨1, 8, [.nilFunc], .other⟩ .nil .nil) (.node 200 ⟨1, 8, [.nilFunc], .other⟩ .nil .nil))) (.node 205 ⟨1, 8, [.nilFunc], .other⟩ (.node 203 ⟨1, 8, [.nilFunc], .other⟩ (.node 202 ⟨1, 4, [.int .u32 0], (.int .u32)⟩ .nil .nil) (.node 204 ⟨1, 8, [.int .u64 0], (.int .u64)⟩ .nil .nil)) (.node 207 ⟨1, 24, [.slice none 0 0], (.slice 5)⟩ (.node 206 ⟨1, 8, [.nilFunc], .other⟩ .nil .nil) (.node 209 ⟨1, 8, [.nilFunc], .other⟩ .nil .nil)))))) (.node 245 ⟨1, 8, [.nilFunc], .other⟩ (.node 228 ⟨1, 8, [.nilFunc], .other⟩ (.node 220 ⟨1, 8, [.nilFunc], .other⟩ (.node 215 ⟨1, 8, [.nilFunc], .other⟩ (.node 213 ⟨1, 8, [.nilFunc], .other⟩ (.node 212 ⟨1, 8, [.nilFunc], .other⟩ (.node 211 ⟨1, 8, [.nilFunc], .other⟩ .nil .nil) .nil) (.node 214 ⟨1, 8, [.nilFunc], .other⟩ .nil .nil)) (.node 217 ⟨1, 8, [.nilFunc], .other⟩ (.node 216 ⟨1, 8, [.nilFunc], .other⟩ .nil .nil) (.node 218 ⟨1, 8, [.pointer none], .other⟩ .nil .nil))) (.node 224 ⟨1, 8, [.nilFunc], .other⟩ (.node 222 ⟨3, 56, [.slice none 0 0, .slice none 0 0, .pointer none], (.struct [(0, 1), (1, 1), (2, 1)])⟩ (.node 221 ⟨3, 56, [.slice none 0 0, .slice none 0 0, .pointer none], (.struct [(0, 1), (1, 1), (2, 1)])⟩ .nil .nil) (.node 223 ⟨1, 8, [.int .u64 0], (.int .u64)⟩ .nil .nil)) (.node 226 ⟨1, 8, [.nilFunc], .other⟩ (.node 225 ⟨1, 8, [.nilFunc], .other⟩ .nil .nil) (.node 227 ⟨1, 8, [.nilFunc], .other⟩ .nil .nil)))) (.node 236 ⟨1, 8, [.nilFunc], .other⟩ (.node 232 ⟨1, 8, [.nilFunc], .other⟩ (.node 230 ⟨1, 8, [.nilFunc], .other⟩ (.node 229 ⟨1, 8, [.nilFunc], .other⟩ .nil .nil) (.node 231 ⟨1, 8, [.nilFunc], .other⟩ .nil .nil)) (.node 234 ⟨1, 8, [.nilFunc], .other⟩ (.node 233 ⟨1, 8, [.nilFunc], .other⟩ .nil .nil) (.node 235 ⟨1, 8, [.nilFunc], .other⟩ .nil .nil))) (.node 241 ⟨1, 8, [.nilFunc], .other⟩ (.node 238 ⟨1, 8, [.nilFunc], .other⟩ (.node 237 ⟨1, 8, [.nilFunc], .other⟩ .nil .nil) (.node 239 ⟨1, 8, [.nilFunc], .other⟩ .nil .nil)) (.node 243 ⟨1, 8, [.nilFunc], .other⟩ (.node 242 ⟨1, 8, [.nilFunc], .other⟩ .nil .nil) (.node 244 ⟨1, 8, [.nilFunc], .other⟩ .nil .nil))))) (.node 265 ⟨1, 8, [.nilFunc], .other⟩ (.node 256 ⟨1, 8, [.pointer none], .other⟩ (.node 251 ⟨1, 8, [.nilFunc], .other⟩ (.node 248 ⟨1, 8, [.nilFunc], .other⟩ (.node 246 ⟨1, 8, [.pointer none], .other⟩ .nil .nil) (.node 249 ⟨1, 8, [.nilFunc], .other⟩ .nil .nil)) (.node 254 ⟨1, 8, [.nilFunc], .other⟩ (.node 253 ⟨1, 8, [.nilFunc], .other⟩ .nil .nil) (.node 255 ⟨1, 8, [.nilFunc], .other⟩ .nil .nil))) (.node 261 ⟨1, 8, [.nilFunc], .other⟩ (.node 259 ⟨1, 8, [.nilFunc], .other⟩ (.node 258 ⟨1, 8, [.nilFunc], .other⟩ .nil .nil) (.node 260 ⟨1, 8, [.nilFunc], .other⟩ .nil .nil)) (.node 263 ⟨3, 56, [.slice none 0 0, .slice none 0 0, .pointer none], (.struct [(0, 1), (1, 1), (2, 1)])⟩ (.node 262 ⟨3, 56, [.slice none 0 0, .slice none 0 0, .pointer none], (.struct [(0, 1), (1, 1), (2, 1)])⟩ .nil .nil) (.node 264 ⟨1, 8, [.nilFunc], .other⟩ .nil .nil)))) (.node 273 ⟨1, 1, [.int .u8 0], (.int .u8)⟩ (.node 269 ⟨0, 0, [], (.array 0 16)⟩ (.node 267 ⟨4, 40, [.pointer none, .pointer none, .pointer none, .string ⟨#[]⟩], (.struct [(0, 1), (1, 1), (2, 1), (3, 1)])⟩ (.node 266 ⟨1, 8, [.nilFunc], .other⟩ .nil .nil) (.node 268 ⟨4, 40, [.pointer none, .pointer none, .pointer none, .string ⟨#[]⟩], (.struct [(0, 1), (1, 1), (2, 1), (3, 1)])⟩ .nil .nil)) (.node 271 ⟨0, 0, [], (.struct [(0, 0)])⟩ (.node 270 ⟨0, 0, [], (.struct [(0, 0)])⟩ .nil .nil) (.node 272 ⟨1, 8, [.nilFunc], .other⟩ .nil .nil))) (.node 277 ⟨1, 4, [.int .i32 0], (.int .i32)⟩ (.node 275 ⟨1, 8, [.nilFunc], .other⟩ (.node 274 ⟨1, 1, [.int .u8 0], (.int .u8)⟩ .nil .nil) (.node 276 ⟨1, 8, [.pointer none], .other⟩ .nil .nil)) (.node 279 ⟨11, 48, [.int .u64 0, .int .u64 0, .int .u32 0, .int .u8 0, .int .u8 0, .int .u8 0, .int .u8 0, .nilFunc, .pointer none, .int .i32 0, .int .i32 0], (.struct [(0, 1), (1, 1), (2, 1), (3, 1), (4, 1), (5, 1), (6, 1), (7, 1), (8, 1), (9, 1), (10, 1)])⟩ (.node 278 ⟨1, 4, [.int .i32 0], (.int .i32)⟩ .nil .nil) (.node 280 ⟨11, 48, [.int .u64 0, .int .u64 0, .int .u32 0, .int .u8 0, .int .u8 0, .int .u8 0, .int .u8 0, .nilFunc, .pointer none, .int .i32 0, .int .i32 0], (.struct [(0, 1), (1, 1), (2, 1), (3, 1), (4, 1), (5, 1), (6, 1), (7, 1), (8, 1), (9, 1), (10, 1)])⟩ .nil .nil))))))))
set_option maxRecDepth 100000 in
theorem tabOkB : tab.okB Try.prog = true := by kernel_rfl
theorem tok : TabOk Try.prog tab := tab_ok tabOkB
end Go.Proofs.Ytnkafjkcjpajgaa
namespace Go.Proofs.Ytnkafjkcjpajgaa
open Go.RowKit
section
variable {P : Program} {F : Frm} {L : Tab} {d : Option Tmp} {ty : TypeId} {pos : String} {aft : Array Edge} {g : Option (Nat × Bool)} {ρ : Operand → AV} {hp : List Blk} {K : AV → List Blk → Prop}
theorem rt_part {M : Mm} {n sz l h : Nat} {cs : List T} {A : Option Addr} {c : Nat} (hr : RT M (.row n sz cs) (.slice A n c)) (hlh : l ≤ h) (hhn : h ≤ n) :
    RT M (.row (h - l) sz ((cs.drop (l * sz)).take ((h - l) * sz))) (.slice (if c = l then A else A.map (·.add (l * sz))) (h - l) (c - l)) := by
  simp only [RT] at hr ⊢
  obtain ⟨A', c', xs, e, hc, hm, h0, hx, hat, hrt⟩ := hr
  injection e with e1 _ e2
  subst e1; subst e2
  have hle : (h - l) * sz ≤ n * sz - l * sz := by rw [← Nat.sub_mul]; exact Nat.mul_le_mul_right _ (by omega)
  refine ⟨_, _, (xs.drop (l * sz)).take ((h - l) * sz), rfl, by omega, by omega, h0, by simp [hx]; omega, fun hpos => ?_, (hrt.drop _).take _⟩
  obtain ⟨ad, rfl, hA⟩ := hat (by omega)
  rw [if_neg (by omega)]
  refine ⟨_, rfl, fun j x hj => ?_⟩
  rw [add_add']
  refine hA _ _ ?_
  rw [List.getElem?_take] at hj
  split at hj
  · rw [List.getElem?_drop] at hj; exact hj
  · cases hj
theorem lo_part_hi (hL : TabOk P L) {t el : TypeId} {ti te : TI} {x y : Operand} {n sz : Nat} {cs : List T} {k : IntKind} {z : Int} (h : Nat) (hh : h ≤ n) (hx : ρ x = .c (.row n sz cs)) (hy : ρ y = .c (.lit (.int k z))) (hz : z = (h : Int)) (ht : L.look t = some ti) (hd : ti.d = .slice el) (hte : L.look el = some te) (hsz : te.size = sz)
    (hK : K (.c (.row h sz (cs.take (h * sz)))) hp) : LO P F ⟨d, .slice t x none (some y) none, ty, pos, aft, g⟩ ρ hp K := by
  refine LO.same (fun M e w he _ => ?_) hK
  have h1 := he x (by simp [Op.operands])
  rw [hx] at h1
  simp only [RA] at h1
  have h2 := he y (by simp [Op.operands])
  rw [hy] at h2
  simp only [RA, RT] at h2
  have h3 := h1
  simp only [RT] at h3
  obtain ⟨A, c, xs, hu, hc, _⟩ := h3
  rw [hu] at h1
  refine ⟨_, ?_, by simp only [RA]; simpa using rt_part (l := 0) h1 (Nat.zero_le _) hh⟩
  subst hz
  have hb := run_sliceBound (P := P) (w := w) k (h : Int) c .sliceAcap (by omega) (by omega)
  simp [execOp, Instr.sliceAt, Instr.slice, Instr.sliceBounds, hu, h2, run_underlying (hL.slice ht hd), hL.sizeOf hte, hb, hsz]
theorem zPh {t el : TypeId} {ti te : TI} {x y : Operand} {n sz : Nat} {cs : List T} {k : IntKind} {z : Int} (h : Nat) (hh : h ≤ n) (hz : z = (h : Int)) (hK : K (.c (.row h sz (cs.take (h * sz)))) hp) (hL : TabOk P L := by exact tok) (hx : ρ x = .c (.row n sz cs) := by exact rfl) (hy : ρ y = .c (.lit (.int k z)) := by exact rfl) (ht : L.look t = some ti := by exact rfl) (hd : ti.d = .slice el := by exact rfl) (hte : L.look el = some te := by exact rfl) (hsz : te.size = sz := by exact rfl) : LO P F ⟨d, .slice t x none (some y) none, ty, pos, aft, g⟩ ρ hp K :=
  lo_part_hi hL h hh hx hy hz ht hd hte hsz hK
theorem zSub {t t' : TypeId} {x y : Operand} {a b : Int} (h : K (.c (.lit (.int .i64 (a - b)))) hp) (hx : ρ x = .c (.lit (.int .i64 a)) := by exact rfl) (hy : ρ y = .c (.lit (.int .i64 b)) := by exact rfl) (hr : -9223372036854775808 ≤ a - b ∧ a - b ≤ 9223372036854775807 := by first | omega | (dsimp only at *; omega)) : LO P F ⟨d, .binOp .sub t x y t', ty, pos, aft, g⟩ ρ hp K :=
  lo_sub hx hy (IntWalk.i64_in _ hr) h
end
def strTs (s : ByteArray) : List T := [.lit (.string s)]
def strRow (l : List ByteArray) : T := .row l.length 1 (l.flatMap strTs)
theorem str_at {l : List ByteArray} {k : Nat} {s : ByteArray} (h : l[k]? = some s) : (l.flatMap strTs)[k]? = some (.lit (.string s)) := by
  have := flat_get strTs 1 (fun _ => rfl) h (j := 0) (by omega)
  simpa [strTs] using this
end Go.Proofs.Ytnkafjkcjpajgaa
