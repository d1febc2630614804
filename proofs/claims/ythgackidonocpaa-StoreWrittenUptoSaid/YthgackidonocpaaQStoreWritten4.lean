/-
  Texts of this proof, part 4: Ab12 Ab13 Ab14 Ab15 Ab16 Ab19 Ab26 Ab20.
-/
import Derived.Test.YthgackidonocpaaQStoreWritten3
import Derived.MapKept
namespace Go.Proofs.Ythgackidonocpaa
open Go.RowKit
/-- what a slot holds, laid open -/
def fc : AV → Option AV
  | .c t => some (.c t)
  | .agg cs => some (.agg cs)
  | .tup cs => some (.tup cs)
  | .fn f cap => some (.fn f cap)
  | .ptr i b off => some (.ptr i b off)
  | .own i v => some (.own i v)
  | .eptr i v k => some (.eptr i v k)
  | .junk => none
theorem fc_eq : ∀ {v u : AV}, fc v = some u → v = u
  | .c _, _, h => by injection h
  | .agg _, _, h => by injection h
  | .tup _, _, h => by injection h
  | .fn _ _, _, h => by injection h
  | .ptr _ _ _, _, h => by injection h
  | .own _ _, _, h => by injection h
  | .eptr _ _ _, _, h => by injection h
  | .junk, _, h => by cases h
section
variable {P : Program} {F : Frm} {L : Tab} {ops : Array Oper} {K : AS → Prop} {τ : Nat → AV} {hp : List Blk} {N : Nat} {rest : List Oper} {op : Op} {ty : TypeId} {pos : String} {aft : Array Edge} {g : Nat} {b c : Bool} {d t : Tmp} {σ : AS}
theorem zNil (h : K σ) : AL P F ops K [] σ := al_nil h
theorem zOp (h : LO P F ⟨some t, op, ty, pos, aft, none⟩ (evT τ) hp fun v hp' => AL P F ops K rest ⟨upd N t v τ, hp', N⟩) : AL P F ops K (⟨some t, op, ty, pos, aft, none⟩ :: rest) ⟨τ, hp, N⟩ := x_op h
theorem zOpn (h : LO P F ⟨none, op, ty, pos, aft, none⟩ (evT τ) hp fun _ hp' => AL P F ops K rest ⟨τ, hp', N⟩) : AL P F ops K (⟨none, op, ty, pos, aft, none⟩ :: rest) ⟨τ, hp, N⟩ := x_opn h
theorem zYes (h : LO P F ⟨some t, op, ty, pos, aft, some (g, b)⟩ (evT τ) hp fun v hp' => AL P F ops K rest ⟨upd N t v τ, hp', N⟩) (hd : (ops[g]?).bind (·.dst) = some d := by exact rfl) (hv : τ d = .c (.lit (.bool c)) := by exact rfl) (hc : c = b := by first | exact rfl | assumption | exact neg_t (by assumption) | exact neg_f (by assumption)) :
    AL P F ops K (⟨some t, op, ty, pos, aft, some (g, b)⟩ :: rest) ⟨τ, hp, N⟩ := x_yes hd hv hc h
theorem zYesn (h : LO P F ⟨none, op, ty, pos, aft, some (g, b)⟩ (evT τ) hp fun _ hp' => AL P F ops K rest ⟨τ, hp', N⟩) (hd : (ops[g]?).bind (·.dst) = some d := by exact rfl) (hv : τ d = .c (.lit (.bool c)) := by exact rfl) (hc : c = b := by first | exact rfl | assumption | exact neg_t (by assumption) | exact neg_f (by assumption)) :
    AL P F ops K (⟨none, op, ty, pos, aft, some (g, b)⟩ :: rest) ⟨τ, hp, N⟩ := x_yesn hd hv hc h
theorem zNo (h : AL P F ops K rest ⟨upd N t (.c (.lit undef)) τ, hp, N⟩) (hd : (ops[g]?).bind (·.dst) = some d := by exact rfl) (hv : τ d = .c (.lit (.bool c)) := by exact rfl) (hc : c = !b := by first | exact rfl | assumption | exact neg_t (by assumption) | exact neg_f (by assumption)) :
    AL P F ops K (⟨some t, op, ty, pos, aft, some (g, b)⟩ :: rest) ⟨τ, hp, N⟩ := x_no hd hv hc h
theorem zNon (h : AL P F ops K rest ⟨τ, hp, N⟩) (hd : (ops[g]?).bind (·.dst) = some d := by exact rfl) (hv : τ d = .c (.lit (.bool c)) := by exact rfl) (hc : c = !b := by first | exact rfl | assumption | exact neg_t (by assumption) | exact neg_f (by assumption)) :
    AL P F ops K (⟨none, op, ty, pos, aft, some (g, b)⟩ :: rest) ⟨τ, hp, N⟩ := x_non hd hv hc h
theorem zUn (h : AL P F ops K rest ⟨upd N t (.c (.lit undef)) τ, hp, N⟩) (hd : (ops[g]?).bind (·.dst) = some d := by exact rfl) (hv : τ d = .c (.lit undef) := by exact rfl) : AL P F ops K (⟨some t, op, ty, pos, aft, some (g, b)⟩ :: rest) ⟨τ, hp, N⟩ := x_un hd hv h
theorem zUnn (h : AL P F ops K rest ⟨τ, hp, N⟩) (hd : (ops[g]?).bind (·.dst) = some d := by exact rfl) (hv : τ d = .c (.lit undef) := by exact rfl) : AL P F ops K (⟨none, op, ty, pos, aft, some (g, b)⟩ :: rest) ⟨τ, hp, N⟩ := x_unn hd hv h
end
section
variable {P : Program} {F : Frm} {L : Tab} {τ τ' : Nat → AV} {hp hp' : List Blk} {N : Nat} {Q : Exit → AS → Prop}
theorem zT {c : Operand} {x y : Code} {t : Bool} (h : AC P F x Q ⟨τ, hp, N⟩) (hc : evT τ c = .c (.lit (.bool t)) := by exact rfl) (ht : t = true := by first | exact rfl | assumption | exact neg_t (by assumption)) : AC P F (.cond c x y) Q ⟨τ, hp, N⟩ := x_t hc ht h
theorem zF {c : Operand} {x y : Code} {t : Bool} (h : AC P F y Q ⟨τ, hp, N⟩) (hc : evT τ c = .c (.lit (.bool t)) := by exact rfl) (ht : t = false := by first | exact rfl | assumption | exact neg_f (by assumption)) : AC P F (.cond c x y) Q ⟨τ, hp, N⟩ := x_f hc ht h
end
section
variable {P : Program} {F : Frm} {L : Tab} {d : Option Tmp} {ty : TypeId} {pos : String} {aft : Array Edge} {g : Option (Nat × Bool)} {ρ : Operand → AV} {hp : List Blk} {K : AV → List Blk → Prop}
theorem zkL {t : TypeId} {x : Operand} (h : LO P F ⟨d, .load t x, ty, pos, aft, g⟩ ρ hp K) : LO P F ⟨d, .load t x, ty, pos, aft, g⟩ ρ hp K := h
theorem zkF {t : TypeId} {x : Operand} {k : Nat} (h : LO P F ⟨d, .fieldAddr t x k, ty, pos, aft, g⟩ ρ hp K) : LO P F ⟨d, .fieldAddr t x k, ty, pos, aft, g⟩ ρ hp K := h
theorem zkB {o : BinOp} {t t' : TypeId} {x y : Operand} (h : LO P F ⟨d, .binOp o t x y t', ty, pos, aft, g⟩ ρ hp K) : LO P F ⟨d, .binOp o t x y t', ty, pos, aft, g⟩ ρ hp K := h
theorem zkI {b : Builtin} {xs : Array Operand} {ts : Array TypeId} (h : LO P F ⟨d, .call { callee := .builtin b, args := xs, argTypes := ts }, ty, pos, aft, g⟩ ρ hp K) : LO P F ⟨d, .call { callee := .builtin b, args := xs, argTypes := ts }, ty, pos, aft, g⟩ ρ hp K := h
theorem zM {x : Operand} {v : AV} (h : K v hp) (hv : fc (ρ x) = some v := by exact rfl) : LO P F ⟨d, .move x, ty, pos, aft, g⟩ ρ hp K := lo_move (fc_eq hv) h
theorem zA {x : Operand} {v : AV} (h : K v hp) (hv : fc (ρ x) = some v := by exact rfl) : LO P F ⟨d, .assign x, ty, pos, aft, g⟩ ρ hp K := lo_assign (fc_eq hv) h
theorem zPt {c x y : Operand} {v : AV} {b : Bool} (h : K v hp) (hc : ρ c = .c (.lit (.bool b)) := by exact rfl) (hb : b = true := by first | exact rfl | assumption | exact neg_t (by assumption)) (hv : fc (ρ x) = some v := by exact rfl) : LO P F ⟨d, .pick c x y, ty, pos, aft, g⟩ ρ hp K := v_pick_t hc hb (fc_eq hv) h
theorem zPf {c x y : Operand} {v : AV} {b : Bool} (h : K v hp) (hc : ρ c = .c (.lit (.bool b)) := by exact rfl) (hb : b = false := by first | exact rfl | assumption | exact neg_f (by assumption)) (hv : fc (ρ y) = some v := by exact rfl) : LO P F ⟨d, .pick c x y, ty, pos, aft, g⟩ ρ hp K := v_pick_f hc hb (fc_eq hv) h
theorem zE {x : Operand} {ts : List T} {k : Nat} {t : T} (h : K (.c t) hp) (hx : ρ x = .c (.tup ts) := by exact rfl) (hk : ts[k]? = some t := by exact rfl) : LO P F ⟨d, .extract x k, ty, pos, aft, g⟩ ρ hp K := lo_extract hx hk h
theorem zEA {x : Operand} {ts : List AV} {k : Nat} {t : AV} (h : K t hp) (hx : ρ x = .tup ts := by exact rfl) (hk : ts[k]? = some t := by exact rfl) : LO P F ⟨d, .extract x k, ty, pos, aft, g⟩ ρ hp K := lo_extractA hx hk h
theorem zAl {t : TypeId} {ti : TI} {cs : List AV} {n : Nat} {hp' : Nat → List Blk} (h : ∀ b, K (.ptr n b 0) (hp' b)) (hL : TabOk P L := by exact tok) (ht : L.look t = some ti := by exact rfl) (hz : evl (ti.zero.map fun v => AV.c (.lit v)) = some cs := by exact rfl) (hn : lenU hp = some n := by exact rfl) (hf : ∀ b, evl (hp ++ [.box b t cs]) = some (hp' b) := by exact fun _ => rfl) : LO P F ⟨d, .alloc t, ty, pos, aft, g⟩ ρ hp K := v_alloc hL ht hz hn hf h
theorem zBx {t : TypeId} {x : Operand} {v : AV} {cs : List AV} {n : Nat} {hp' : Nat → List Blk} (h : ∀ b, K (.ptr n b 0) (hp' b)) (hv : fc (ρ x) = some v := by exact rfl) (hc : evl (cellsA v) = some cs := by exact rfl) (h1 : allOne cs = true := by first | exact rfl | assumption) (hn : lenU hp = some n := by exact rfl) (hf : ∀ b, evl (hp ++ [.box b t cs]) = some (hp' b) := by exact fun _ => rfl) : LO P F ⟨d, .box t x, ty, pos, aft, g⟩ ρ hp K := v_box (fc_eq hv) hc h1 hn hf h
theorem zS {t : TypeId} {ti : TI} {x y : Operand} {i b off : Nat} {tb : TypeId} {cs vs cs' : List AV} {v : AV} {hp' : List Blk} (h : K (.c (.lit undef)) hp') (hL : TabOk P L := by exact tok) (hx : ρ x = .ptr i b off := by exact rfl) (hi : hp[i]? = some (.box b tb cs) := by exact rfl) (hv : fc (ρ y) = some v := by exact rfl) (ht : L.look t = some ti := by exact rfl) (hc : evl (cellsA v) = some vs := by exact rfl) (h1 : allOne vs = true := by first | exact rfl | assumption) (hl : lenU vs = some ti.size := by exact rfl) (hb : Nat.ble (off + ti.size) cs.length = true := by exact rfl) (hs : evl (spl cs off vs) = some cs' := by exact rfl) (hf : evl (hp.set i (.box b tb cs')) = some hp' := by exact rfl) :
    LO P F ⟨d, .store t x y, ty, pos, aft, g⟩ ρ hp K := v_store hL hx hi (fc_eq hv) ht hc h1 hl hb hs hf h
theorem zL1 {t : TypeId} {ti : TI} {x : Operand} {i b off : Nat} {tb : TypeId} {cs : List AV} {v : AV} (h : K v hp) (hL : TabOk P L := by exact tok) (hx : ρ x = .ptr i b off := by exact rfl) (hi : hp[i]? = some (.box b tb cs) := by exact rfl) (ht : L.look t = some ti := by exact rfl) (ha : ti.agg = false := by exact rfl) (hv : cs[off]? = some v := by exact rfl) : LO P F ⟨d, .load t x, ty, pos, aft, g⟩ ρ hp K := lo_load_box1 hL hx hi ht ha hv h
theorem zL2 {t : TypeId} {ti : TI} {x : Operand} {i b off : Nat} {tb : TypeId} {cs l : List AV} (h : K (.agg l) hp) (hL : TabOk P L := by exact tok) (hx : ρ x = .ptr i b off := by exact rfl) (hi : hp[i]? = some (.box b tb cs) := by exact rfl) (ht : L.look t = some ti := by exact rfl) (ha : ti.agg = true := by exact rfl) (hl : Nat.ble (off + ti.size) cs.length = true := by exact rfl) (he : evl ((cs.drop off).take ti.size) = some l := by exact rfl) : LO P F ⟨d, .load t x, ty, pos, aft, g⟩ ρ hp K := v_load_box hL hx hi ht ha hl he h
theorem zL3 {t : TypeId} {ti : TI} {x : Operand} {off : Nat} {cs : List T} {v : T} (h : K (.c v) hp) (hL : TabOk P L := by exact tok) (hx : ρ x = .c (.pin cs off) := by exact rfl) (ht : L.look t = some ti := by exact rfl) (ha : ti.agg = false := by exact rfl) (hv : cs[off]? = some v := by exact rfl) : LO P F ⟨d, .load t x, ty, pos, aft, g⟩ ρ hp K := lo_load_pin1 hL hx ht ha hv h
/-- the element of a row that came in; what it is must be told -/
theorem zEl {t : TypeId} {ti : TI} {x : Operand} {off : Nat} {cs ts : List T} (hts : (cs.drop off).take ti.size = ts) (hl : ts.length = ti.size) (h : K (.c (.agg ts)) hp) (hL : TabOk P L := by exact tok) (hx : ρ x = .c (.pin cs off) := by exact rfl) (ht : L.look t = some ti := by exact rfl) (ha : ti.agg = true := by exact rfl) : LO P F ⟨d, .load t x, ty, pos, aft, g⟩ ρ hp K := lo_load_pin hL hx ht ha hts hl h
theorem zLp {t : TypeId} {ti : TI} {x : Operand} {off : Nat} {cs ts : List T} (h : K (.c (.agg ts)) hp) (hL : TabOk P L := by exact tok) (hx : ρ x = .c (.pin cs off) := by exact rfl) (ht : L.look t = some ti := by exact rfl) (ha : ti.agg = true := by exact rfl) (hts : evl ((cs.drop off).take ti.size) = some ts := by exact rfl) (hl : lenU ts = some ti.size := by exact rfl) : LO P F ⟨d, .load t x, ty, pos, aft, g⟩ ρ hp K := lo_load_pin hL hx ht ha (evl_eq hts).symm (lenU_eq hl).symm h
theorem zEl1 {t : TypeId} {ti : TI} {x : Operand} {off : Nat} {cs : List T} {v : T} (hv : cs[off]? = some v) (h : K (.c v) hp) (hL : TabOk P L := by exact tok) (hx : ρ x = .c (.pin cs off) := by exact rfl) (ht : L.look t = some ti := by exact rfl) (ha : ti.agg = false := by exact rfl) : LO P F ⟨d, .load t x, ty, pos, aft, g⟩ ρ hp K := lo_load_pin1 hL hx ht ha hv h
theorem zIx {t el : TypeId} {ti te : TI} {x y : Operand} {n sz : Nat} {cs : List T} {k : IntKind} {z : Int} (j : Nat) (hj : j < n) (h : K (.c (.pin cs (j * sz))) hp) (hL : TabOk P L := by exact tok) (hx : ρ x = .c (.row n sz cs) := by exact rfl) (hy : ρ y = .c (.lit (.int k z)) := by exact rfl) (hz : z = (j : Int) := by exact rfl) (ht : L.look t = some ti := by exact rfl) (hd : ti.d = .slice el := by exact rfl) (hte : L.look el = some te := by exact rfl) (hsz : te.size = sz := by exact rfl) : LO P F ⟨d, .indexAddr t x y, ty, pos, aft, g⟩ ρ hp K := lo_idx hL j hx hy hz hj ht hd hte hsz h
theorem zIxo {t el : TypeId} {ti te : TI} {x y : Operand} {i n sz : Nat} {v : Value} {e' : TypeId} {cs : List T} {k : IntKind} {z : Int} (j : Nat) (hj : j < n) (h : K (.eptr i v (j * sz)) hp) (hL : TabOk P L := by exact tok) (hx : ρ x = .own i v := by exact rfl) (hi : hp[i]? = some (.row v e' sz n cs) := by exact rfl) (hy : ρ y = .c (.lit (.int k z)) := by exact rfl) (hz : z = (j : Int) := by exact rfl) (ht : L.look t = some ti := by exact rfl) (hd : ti.d = .slice el := by exact rfl) (hte : L.look el = some te := by exact rfl) (hsz : te.size = sz := by exact rfl) : LO P F ⟨d, .indexAddr t x y, ty, pos, aft, g⟩ ρ hp K := lo_idx_own hL j hx hi hy hz hj ht hd hte hsz h
theorem zElo {t : TypeId} {ti : TI} {x : Operand} {i off n sz : Nat} {v : Value} {e' : TypeId} {cs ts : List T} (hts : (cs.drop off).take ti.size = ts) (hl : ts.length = ti.size) (h : K (.c (.agg ts)) hp) (hL : TabOk P L := by exact tok) (hx : ρ x = .eptr i v off := by exact rfl) (hi : hp[i]? = some (.row v e' sz n cs) := by exact rfl) (ht : L.look t = some ti := by exact rfl) (ha : ti.agg = true := by exact rfl) : LO P F ⟨d, .load t x, ty, pos, aft, g⟩ ρ hp K := lo_load_e hL hx hi ht ha hts hl h
theorem zElo1 {t : TypeId} {ti : TI} {x : Operand} {i off n sz : Nat} {v : Value} {e' : TypeId} {cs : List T} {u : T} (hv : cs[off]? = some u) (h : K (.c u) hp) (hL : TabOk P L := by exact tok) (hx : ρ x = .eptr i v off := by exact rfl) (hi : hp[i]? = some (.row v e' sz n cs) := by exact rfl) (ht : L.look t = some ti := by exact rfl) (ha : ti.agg = false := by exact rfl) : LO P F ⟨d, .load t x, ty, pos, aft, g⟩ ρ hp K := lo_load_e1 hL hx hi ht ha hv h
theorem zF1 {s : TypeId} {ti : TI} {fs : List (Nat × Nat)} {k o sz : Nat} {x : Operand} {i b off : Nat} (h : K (.ptr i b (off + o)) hp) (hL : TabOk P L := by exact tok) (hx : ρ x = .ptr i b off := by exact rfl) (ht : L.look s = some ti := by exact rfl) (hd : ti.d = .struct fs := by exact rfl) (hk : fs[k]? = some (o, sz) := by exact rfl) (h0 : Nat.beq sz 0 = false := by exact rfl) : LO P F ⟨d, .fieldAddr s x k, ty, pos, aft, g⟩ ρ hp K := lo_fld hL hx ht hd hk h0 h
theorem zF2 {s : TypeId} {ti : TI} {fs : List (Nat × Nat)} {k o sz : Nat} {x : Operand} {cs : List T} {off : Nat} (h : K (.c (.pin cs (off + o))) hp) (hL : TabOk P L := by exact tok) (hx : ρ x = .c (.pin cs off) := by exact rfl) (ht : L.look s = some ti := by exact rfl) (hd : ti.d = .struct fs := by exact rfl) (hk : fs[k]? = some (o, sz) := by exact rfl) (h0 : Nat.beq sz 0 = false := by exact rfl) : LO P F ⟨d, .fieldAddr s x k, ty, pos, aft, g⟩ ρ hp K := lo_fld_pin hL hx ht hd hk h0 h
theorem zF3 {s : TypeId} {ti : TI} {fs : List (Nat × Nat)} {k o sz : Nat} {x : Operand} {i : Nat} {v : Value} {off : Nat} (h : K (.eptr i v (off + o)) hp) (hL : TabOk P L := by exact tok) (hx : ρ x = .eptr i v off := by exact rfl) (ht : L.look s = some ti := by exact rfl) (hd : ti.d = .struct fs := by exact rfl) (hk : fs[k]? = some (o, sz) := by exact rfl) (h0 : Nat.beq sz 0 = false := by exact rfl) : LO P F ⟨d, .fieldAddr s x k, ty, pos, aft, g⟩ ρ hp K := lo_fld_e hL hx ht hd hk h0 h
theorem zN1 {t el : TypeId} {ti : TI} {x : Operand} {n sz : Nat} {cs : List T} (h : n ≤ 9223372036854775807 → K (.c (.lit (.int .i64 n))) hp) (hL : TabOk P L := by exact tok) (hx : ρ x = .c (.row n sz cs) := by exact rfl) (ht : L.look t = some ti := by exact rfl) (hd : ti.d = .slice el := by exact rfl) : LO P F ⟨d, .call { callee := .builtin .len, args := #[x], argTypes := #[t] }, ty, pos, aft, g⟩ ρ hp K := lo_len hL hx ht hd h
theorem zN2 {t el : TypeId} {ti : TI} {x : Operand} {i n sz : Nat} {v : Value} {e' : TypeId} {cs : List T} (h : n ≤ 9223372036854775807 → K (.c (.lit (.int .i64 n))) hp) (hL : TabOk P L := by exact tok) (hx : ρ x = .own i v := by exact rfl) (hi : hp[i]? = some (.row v e' sz n cs) := by exact rfl) (ht : L.look t = some ti := by exact rfl) (hd : ti.d = .slice el := by exact rfl) : LO P F ⟨d, .call { callee := .builtin .len, args := #[x], argTypes := #[t] }, ty, pos, aft, g⟩ ρ hp K := lo_len_own hL hx hi ht hd h
theorem zN3 {t : TypeId} {ti : TI} {x : Operand} {s : ByteArray} (h : K (.c (.lit (.int .i64 s.size))) hp) (hL : TabOk P L := by exact tok) (hx : ρ x = .c (.lit (.string s)) := by exact rfl) (ht : L.look t = some ti := by exact rfl) (hd : ti.d = .string := by exact rfl) : LO P F ⟨d, .call { callee := .builtin .len, args := #[x], argTypes := #[t] }, ty, pos, aft, g⟩ ρ hp K := lo_len_str hL hx ht hd h
theorem zN4 {t el : TypeId} {ti : TI} {x : Operand} (h : K (.c (.lit (.int .i64 0))) hp) (hL : TabOk P L := by exact tok) (hx : ρ x = .c (.lit (.slice none 0 0)) := by exact rfl) (ht : L.look t = some ti := by exact rfl) (hd : ti.d = .slice el := by exact rfl) : LO P F ⟨d, .call { callee := .builtin .len, args := #[x], argTypes := #[t] }, ty, pos, aft, g⟩ ρ hp K := lo_len_nil hL hx ht hd h
theorem zAp {t el : TypeId} {ti te : TI} {x y : Operand} {i n m sz : Nat} {v : Value} {cs ts : List T} {hp' : Value → List Blk} (h : ∀ v', K (.own i v') (hp' v')) (hL : TabOk P L := by exact tok) (hx : ρ x = .own i v := by exact rfl) (hi : hp[i]? = some (.row v el sz n cs) := by exact rfl) (hy : ρ y = .c (.row m sz ts) := by exact rfl) (ht : L.look t = some ti := by exact rfl) (hd : ti.d = .slice el := by exact rfl) (hte : L.look el = some te := by exact rfl) (hsz : te.size = sz := by exact rfl) (hf : ∀ v', evl (hp.set i (.row v' el sz (n + m) (cs ++ ts))) = some (hp' v') := by exact fun _ => rfl)
    (h63 : n + m ≤ maxLen := by first | (simp only [maxLen]; omega) | (simp only [maxLen]; dsimp only at *; omega)) (hbytes : (n + m) * te.bytes ≤ 140737488355328 := by first | (simp only []; omega) | (dsimp only at *; omega)) : LO P F ⟨d, .call { callee := .builtin .append, args := #[x, y], argTypes := #[t, t] }, ty, pos, aft, g⟩ ρ hp K := v_app hL hx hi hy ht hd hte hsz hf h63 hbytes h
theorem zBd {t : TypeId} {ti : TI} {fs : List (Nat × Nat)} {parts : List (Nat × Operand)} {cs cs' : List AV} (h : K (.agg cs') hp) (hL : TabOk P L := by exact tok) (ht : L.look t = some ti := by exact rfl) (hd : ti.d = .struct fs := by exact rfl) (hf : fillA (fun i => fs[i]?) (ti.zero.map fun v => .c (.lit v)) (parts.map fun p => (p.1, ρ p.2)) = some cs := by exact rfl) (he : evl cs = some cs' := by exact rfl) : LO P F ⟨d, .build t parts.toArray, ty, pos, aft, g⟩ ρ hp K := v_build hL ht hd hf he h
theorem zBs {t el : TypeId} {ti te : TI} {n : Nat} {parts : List (Nat × Operand)} {cs cs' : List AV} {ts : List T} (h : K (.c (.row n te.size ts)) hp) (hL : TabOk P L := by exact tok) (ht : L.look t = some ti := by exact rfl) (hd : ti.d = .slice el := by exact rfl) (hte : L.look el = some te := by exact rfl) (h0 : Nat.ble 1 te.size = true := by exact rfl) (hn : Nat.ble (n * te.size) 16777216 = true := by exact rfl)
    (hf : fillA (fun i => some (i * te.size, te.size)) ((List.range (n * te.size)).map fun j => .c (.lit (te.zero.getD (j % te.size) undef))) (parts.map fun p => (p.1, ρ p.2)) = some cs := by exact rfl) (he : evl cs = some cs' := by exact rfl) (hz : Rzs [] cs' ts := by repeat (first | exact rzs_nil | apply rzs_cons | exact rz_c | exact rz_nil rfl | apply rz_agg | exact rz_own rfl | apply rz_fn | exact rz_ptr rfl | apply rz_tup)) : LO P F ⟨d, .buildSlice t n parts.toArray, ty, pos, aft, g⟩ ρ hp K := v_bslice hL ht hd hte h0 hn hf he hz h
theorem zFn {f : Fn} {cap : List Operand} {l : List AV} (h : K (.fn f l) hp) (he : evl (cap.map ρ) = some l := by exact rfl) : LO P F ⟨d, .makeFunc f #[] cap.toArray, ty, pos, aft, g⟩ ρ hp K := v_func he h
theorem zCall {f : FuncId} {y : Operand} {xs : List Operand} {ats : Array TypeId} {ts : List T} {R : T → Prop} {cap : List AV} (hc : AF P f ts R) (h : ∀ r, R r → K (.c r) hp) (hy : ρ y = .fn (.func f) cap := by exact rfl) (hx : Rzs [] (xs.map ρ ++ cap) ts := by repeat (first | exact rzs_nil | apply rzs_cons | exact rz_c | exact rz_nil rfl | apply rz_agg | exact rz_own rfl | apply rz_fn | exact rz_ptr rfl | apply rz_tup)) : LO P F ⟨d, .call { callee := .value y, args := xs.toArray, argTypes := ats }, ty, pos, aft, g⟩ ρ hp K := lo_call hc hy hx h
theorem zCallc {f : FuncId} {y : Operand} {xs : List Operand} {ats : Array TypeId} {ts cap : List T} {R : T → Prop} (hc : AF P f ts R) (h : ∀ r, R r → K (.c r) hp) (hy : ρ y = .c (.fn (.func f) cap) := by exact rfl) (hx : Rzs [] (xs.map ρ ++ cap.map .c) ts := by first | exact rzs_cons rz_c rzs_self | repeat (first | exact rzs_nil | apply rzs_cons | exact rz_c | exact rz_nil rfl | apply rz_agg | exact rz_own rfl | apply rz_fn | exact rz_ptr rfl | apply rz_tup)) : LO P F ⟨d, .call { callee := .value y, args := xs.toArray, argTypes := ats }, ty, pos, aft, g⟩ ρ hp K := v_callc hc hy hx h
variable {t t' : TypeId} {x y : Operand} {k : IntKind} {a b : Int} {s s' : ByteArray}
theorem zInc {n : Nat} (h : K (.c (.lit (.int .i64 ((n + 1 : Nat) : Int)))) hp) (hx : ρ x = .c (.lit (.int .i64 n)) := by exact rfl) (hy : ρ y = .c (.lit (.int .i64 1)) := by exact rfl) (hb : n < 9223372036854775807 := by first | omega | (dsimp only at *; omega)) : LO P F ⟨d, .binOp .add t x y t', ty, pos, aft, g⟩ ρ hp K := lo_inc hx hy hb h
theorem zNot {c : Bool} (h : K (.c (.lit (.bool !c))) hp) (hx : ρ x = .c (.lit (.bool c)) := by exact rfl) : LO P F ⟨d, .unOp .not t x, ty, pos, aft, g⟩ ρ hp K := lo_not hx h
theorem zC1 (h : K (.c (.lit (.bool (decide (a < b))))) hp) (hx : ρ x = .c (.lit (.int k a)) := by exact rfl) (hy : ρ y = .c (.lit (.int k b)) := by exact rfl) : LO P F ⟨d, .binOp .lss t x y t', ty, pos, aft, g⟩ ρ hp K := lo_lss hx hy h
theorem zC2 (h : K (.c (.lit (.bool (decide (a ≤ b))))) hp) (hx : ρ x = .c (.lit (.int k a)) := by exact rfl) (hy : ρ y = .c (.lit (.int k b)) := by exact rfl) : LO P F ⟨d, .binOp .leq t x y t', ty, pos, aft, g⟩ ρ hp K := lo_leq hx hy h
theorem zC3 (h : K (.c (.lit (.bool (decide (b < a))))) hp) (hx : ρ x = .c (.lit (.int k a)) := by exact rfl) (hy : ρ y = .c (.lit (.int k b)) := by exact rfl) : LO P F ⟨d, .binOp .gtr t x y t', ty, pos, aft, g⟩ ρ hp K := lo_gtr hx hy h
theorem zC4 (h : K (.c (.lit (.bool (decide (b ≤ a))))) hp) (hx : ρ x = .c (.lit (.int k a)) := by exact rfl) (hy : ρ y = .c (.lit (.int k b)) := by exact rfl) : LO P F ⟨d, .binOp .geq t x y t', ty, pos, aft, g⟩ ρ hp K := lo_geq hx hy h
theorem zC5 (h : K (.c (.lit (.bool (decide (a = b))))) hp) (hx : ρ x = .c (.lit (.int k a)) := by exact rfl) (hy : ρ y = .c (.lit (.int k b)) := by exact rfl) : LO P F ⟨d, .binOp .eql t x y t', ty, pos, aft, g⟩ ρ hp K := lo_eql hx hy h
theorem zC6 (h : K (.c (.lit (.bool (!decide (a = b))))) hp) (hx : ρ x = .c (.lit (.int k a)) := by exact rfl) (hy : ρ y = .c (.lit (.int k b)) := by exact rfl) : LO P F ⟨d, .binOp .neq t x y t', ty, pos, aft, g⟩ ρ hp K := lo_neq hx hy h
theorem zS1 (h : K (.c (.lit (.bool (strLt s s')))) hp) (hx : ρ x = .c (.lit (.string s)) := by exact rfl) (hy : ρ y = .c (.lit (.string s')) := by exact rfl) : LO P F ⟨d, .binOp .lss t x y t', ty, pos, aft, g⟩ ρ hp K := lo_lts hx hy h
theorem zS2 (h : K (.c (.lit (.bool (strLt s s' || decide (s = s'))))) hp) (hx : ρ x = .c (.lit (.string s)) := by exact rfl) (hy : ρ y = .c (.lit (.string s')) := by exact rfl) : LO P F ⟨d, .binOp .leq t x y t', ty, pos, aft, g⟩ ρ hp K := lo_les hx hy h
theorem zS3 (h : K (.c (.lit (.bool (!(strLt s s' || decide (s = s')))))) hp) (hx : ρ x = .c (.lit (.string s)) := by exact rfl) (hy : ρ y = .c (.lit (.string s')) := by exact rfl) : LO P F ⟨d, .binOp .gtr t x y t', ty, pos, aft, g⟩ ρ hp K := lo_gts hx hy h
theorem zS4 (h : K (.c (.lit (.bool (!strLt s s')))) hp) (hx : ρ x = .c (.lit (.string s)) := by exact rfl) (hy : ρ y = .c (.lit (.string s')) := by exact rfl) : LO P F ⟨d, .binOp .geq t x y t', ty, pos, aft, g⟩ ρ hp K := lo_ges hx hy h
theorem zS5 (h : K (.c (.lit (.bool (decide (s = s'))))) hp) (hx : ρ x = .c (.lit (.string s)) := by exact rfl) (hy : ρ y = .c (.lit (.string s')) := by exact rfl) : LO P F ⟨d, .binOp .eql t x y t', ty, pos, aft, g⟩ ρ hp K := lo_eqs hx hy h
theorem zS6 (h : K (.c (.lit (.bool (!decide (s = s'))))) hp) (hx : ρ x = .c (.lit (.string s)) := by exact rfl) (hy : ρ y = .c (.lit (.string s')) := by exact rfl) : LO P F ⟨d, .binOp .neq t x y t', ty, pos, aft, g⟩ ρ hp K := lo_nes hx hy h
end
section
variable {L : Tab} {σ : AS} {res : List ResultVar} {R : T → Prop} {ts : List T}
theorem zR (hR : R (outT ts)) (h : Outs L σ res ts := by repeat (first | exact outs_nil | apply outs_cons | (apply out_tmp (v := .c _); (focus exact rfl)) | (apply out_tmp (v := .own _ _); (focus exact rfl)) | (apply out_tmp (v := .agg _); (focus exact rfl)) | (apply out_tmp (v := .ptr _ _ _); (focus exact rfl)) | (apply out_tmp (v := .fn _ _); (focus exact rfl)) | (apply out_agg; (focus exact rfl); (focus exact rfl); (focus exact rfl); (focus exact rfl); (focus exact rfl); (focus exact rfl)) | (apply out_one; (focus exact rfl); (focus exact rfl); (focus exact rfl); (focus exact rfl); (focus exact rfl)) | exact rzs_nil | apply rzs_cons | exact rz_c | exact rz_nil rfl | apply rz_agg | exact rz_own rfl | apply rz_fn | exact rz_ptr rfl | apply rz_tup)) : Fin L res R .ret σ := fin_r h hR
theorem zQ (hR : R (outT ts)) (h : Outs L σ res ts := by repeat (first | exact outs_nil | apply outs_cons | (apply out_tmp (v := .c _); (focus exact rfl)) | (apply out_tmp (v := .own _ _); (focus exact rfl)) | (apply out_tmp (v := .agg _); (focus exact rfl)) | (apply out_tmp (v := .ptr _ _ _); (focus exact rfl)) | (apply out_tmp (v := .fn _ _); (focus exact rfl)) | (apply out_agg; (focus exact rfl); (focus exact rfl); (focus exact rfl); (focus exact rfl); (focus exact rfl); (focus exact rfl)) | (apply out_one; (focus exact rfl); (focus exact rfl); (focus exact rfl); (focus exact rfl); (focus exact rfl)) | exact rzs_nil | apply rzs_cons | exact rz_c | exact rz_nil rfl | apply rz_agg | exact rz_own rfl | apply rz_fn | exact rz_ptr rfl | apply rz_tup)) : Fin L res R .normal σ := fin_n h hR
end
end Go.Proofs.Ythgackidonocpaa
namespace Go.Proofs.Ythgackidonocpaa
open Go.RowKit
section
variable {P : Program} {F : Frm} {L : Tab} {d : Option Tmp} {ty : TypeId} {pos : String} {aft : Array Edge} {g : Option (Nat × Bool)} {ρ : Operand → AV} {hp : List Blk} {K : AV → List Blk → Prop}
theorem RTs.set {M : Mm} : ∀ {ts : List T} {xs : List Value} (k : Nat) {t : T} {x : Value}, RTs M ts xs → RT M t x → RTs M (ts.set k t) (xs.set k x)
  | [], _, _, _, _, h, _ => by simp only [RTs] at h; subst h; simp [RTs]
  | a :: ts, _, 0, _, _, h, ht => by
    simp only [RTs] at h
    obtain ⟨x, r, rfl, h1, h2⟩ := h
    simp only [List.set_cons_zero, RTs]
    exact ⟨_, _, rfl, ht, h2⟩
  | a :: ts, _, k + 1, _, _, h, ht => by
    simp only [RTs] at h
    obtain ⟨x, r, rfl, h1, h2⟩ := h
    simp only [List.set_cons_succ, RTs]
    exact ⟨_, _, rfl, h1, RTs.set k h2 ht⟩
theorem RTs.spl {M : Mm} : ∀ {vs cs : List T} {us xs : List Value} {k : Nat}, RTs M cs xs → RTs M vs us → RTs M (spl cs k vs) (Go.Proofs.Ythgackidonocpaa.spl xs k us)
  | [], _, _, _, _, h, h' => by simp only [RTs] at h'; subst h'; exact h
  | v :: vs, cs, _, xs, k, h, h' => by
    simp only [RTs] at h'
    obtain ⟨x, r, rfl, h1, h2⟩ := h'
    exact RTs.spl (vs := vs) (cs := cs.set k v) (us := r) (xs := xs.set k x) (k := k + 1) (RTs.set k h h1) h2
end
section
variable {P : Program} {F : Frm} {L : Tab}
def OutA (L : Tab) (σ : AS) : ResultVar → AV → Prop
  | .tmp i, v => σ.tmps i = v
  | .cell a ty, v => ∃ i b off tb cs ti, σ.tmps a = .ptr i b off ∧ σ.hp[i]? = some (.box b tb cs) ∧ L.look ty = some ti ∧
      (match ti.agg with | true => off + ti.size ≤ cs.length ∧ v = .agg ((cs.drop off).take ti.size) | false => cs[off]? = some v)
def OutsA (L : Tab) (σ : AS) : List ResultVar → List AV → Prop
  | [], vs => vs = []
  | r :: rs, vs => ∃ v vs', vs = v :: vs' ∧ OutA L σ r v ∧ OutsA L σ rs vs'
def outA : List AV → AV
  | [v] => v
  | vs => .tup vs
theorem outA_sound {M : Mm} {σ : AS} {a : Act} {w : World} (hL : TabOk P L) (hr : Rep F M σ a w) {r : ResultVar} {v : AV} (ho : OutA L σ r v) :
    ∃ u, ((match r with | .tmp t => pure (a.tmps.getD t undef) | .cell a' t => do loadVar t (← asAddr (a.tmps.getD a' undef))) : Sem Value).run P w = .ok u w ∧ RA M v u := by
  cases r with
  | tmp i => exact ⟨_, rfl, by rw [← (show σ.tmps i = v from ho)]; exact hr.tmps i⟩
  | cell x ty =>
    obtain ⟨i, b, off, tb, cs, ti, h1, h2, h3, h4⟩ := ho
    have hv := hr.tmps x
    rw [h1] at hv
    simp only [RA] at hv
    simp only [hv, asAddr, Sem.run_bind, Sem.run_pure, Result.andThen_ok]
    cases hag : ti.agg with
    | true =>
      rw [hag] at h4
      obtain ⟨u, hu, hra⟩ := load_box hL hr.heap h2 h3 hag h4.1
      exact ⟨u, hu, by rw [h4.2]; exact hra⟩
    | false =>
      rw [hag] at h4
      exact load_box1 hL hr.heap h2 h3 hag h4
theorem outsA_sound {M : Mm} {σ : AS} {a : Act} {w : World} (hL : TabOk P L) (hr : Rep F M σ a w) : ∀ {rs : List ResultVar} {vs : List AV}, OutsA L σ rs vs →
    ∃ us, (rs.mapM fun r => ((match r with | .tmp t => pure (a.tmps.getD t undef) | .cell a' t => do loadVar t (← asAddr (a.tmps.getD a' undef))) : Sem Value)).run P w = .ok us w ∧ RAs M vs us
  | [], vs, ho => by
    simp only [OutsA] at ho
    subst ho
    exact ⟨[], rfl, by simp only [RAs]⟩
  | r :: rs, vs, ho => by
    simp only [OutsA] at ho
    obtain ⟨v, vs', rfl, h1, h2⟩ := ho
    obtain ⟨u, hu, hu'⟩ := outA_sound hL hr h1
    obtain ⟨us, hus, hus'⟩ := outsA_sound hL hr h2
    refine ⟨u :: us, ?_, by simp only [RAs]; exact ⟨u, us, rfl, hu', hus'⟩⟩
    simp only [List.mapM_cons, Sem.run_bind, hu, Result.andThen_ok, hus, Sem.run_pure]
theorem resultsA_sound {M : Mm} {σ : AS} {a : Act} {w : World} (hL : TabOk P L) (hr : Rep F M σ a w) {fn : Func} {vs : List AV} (ho : OutsA L σ fn.results.toList vs) :
    ∃ u, (results fn a.tmps).run P w = .ok u w ∧ RA M (outA vs) u := by
  obtain ⟨us, hus, hr⟩ := outsA_sound hL hr ho
  have hlen := hr.len
  have hm : (fn.results.mapM fun r => ((match r with | .tmp t => pure (a.tmps.getD t undef) | .cell a' t => do loadVar t (← asAddr (a.tmps.getD a' undef))) : Sem Value)).run P w = .ok us.toArray w := by
    rw [Array.mapM_eq_mapM_toList]
    rw [Sem.run_map, hus]
    rfl
  refine ⟨if h : us.toArray.size = 1 then us.toArray[0] else .tuple us.toArray, ?_, ?_⟩
  · unfold results
    simp only [Sem.run_bind, Sem.run_pure]
    erw [hm]
    rfl
  · match vs, us, hlen, hr with
    | [], [], _, hr => simp only [outA, RA]; exact ⟨[], by simp, hr⟩
    | [t], [u], _, hr =>
      simp only [RAs] at hr
      obtain ⟨x, r, e, h1, _⟩ := hr
      injection e with e _
      subst e
      simpa [outA] using h1
    | t1 :: t2 :: ts, u1 :: u2 :: us, _, hr => simp only [outA, RA]; exact ⟨u1 :: u2 :: us, by simp, hr⟩
end
end Go.Proofs.Ythgackidonocpaa
namespace Go.Proofs.Ythgackidonocpaa
open Go.RowKit
section
variable {P : Program} {F : Frm} {ops : Array Oper} {md : Region.Mode} {N : Nat} {cls : Nat → Nat}
theorem WO.mono {K K' : (Nat → AV) → List Blk → Prop} : ∀ (r : List Nat) {τ : Nat → AV} {hp : List Blk}, (∀ τ hp, K τ hp → K' τ hp) → WO P F ops N cls K r τ hp → WO P F ops N cls K' r τ hp
  | [], τ, hp, h, hw => h τ hp hw
  | _ :: r, _, _, h, hw => opA_mono (fun _ _ h' => WO.mono r h h') hw
end
section
variable {P : Program} {F : Frm} {τ : Nat → AV} {hp : List Blk} {N : Nat} {Q : Exit → AS → Prop}
/-- every end of x is one of these states -/
theorem x_join {A : Type} {x y : Code} {Q' : Exit → AS → Prop} (W : List Nat) (slots : A → List (Nat × AV)) (hps : A → List Blk) (h2 : ∀ a, AC P F y Q ⟨atT τ W (slots a), hps a, N⟩) (h1 : AC P F x (thenA (fun σ => ∃ a, Wk F σ ⟨atT τ W (slots a), hps a, N⟩) Q') ⟨τ, hp, N⟩) : AC P F x (thenA (AC P F y Q) Q') ⟨τ, hp, N⟩ := by
  refine h1.mono fun e σ' h => ?_
  cases e <;> first | exact h | (obtain ⟨a, ha⟩ := h; exact ac_wk ha (h2 a))
end
end Go.Proofs.Ythgackidonocpaa
namespace Go.Proofs.Ythgackidonocpaa
open Go.RowKit
section
variable {P : Program} {F : Frm} {L : Tab} {d : Option Tmp} {ty : TypeId} {pos : String} {aft : Array Edge} {g : Option (Nat × Bool)} {ρ : Operand → AV} {hp : List Blk} {K : AV → List Blk → Prop}
theorem zSub {t t' : TypeId} {x y : Operand} {a b : Int} (h : K (.c (.lit (.int .i64 (a - b)))) hp) (hx : ρ x = .c (.lit (.int .i64 a)) := by exact rfl) (hy : ρ y = .c (.lit (.int .i64 b)) := by exact rfl) (hr : -9223372036854775808 ≤ a - b ∧ a - b ≤ 9223372036854775807 := by first | omega | (dsimp only at *; omega)) : LO P F ⟨d, .binOp .sub t x y t', ty, pos, aft, g⟩ ρ hp K :=
  lo_sub hx hy (IntWalk.i64_in _ hr) h
end
end Go.Proofs.Ythgackidonocpaa
namespace Go.Proofs.Ythgackidonocpaa
open Go.RowKit
def isPtr (P : Program) (t : TypeId) : Bool := match P.underlying t with | some (.pointer _) => true | _ => false
theorem isPtr_eq {P : Program} {t : TypeId} (h : isPtr P t = true) : ∃ e, P.underlying t = some (.pointer e) := by
  unfold isPtr at h
  split at h
  · exact ⟨_, by assumption⟩
  · cases h
theorem run_nil {P : Program} {t : TypeId} (h : isPtr P t = true) (a : Option Addr) (w : World) : (Op.equal t (.pointer a) (.pointer none)).run P w = .ok a.isNone w := by
  obtain ⟨e, he⟩ := isPtr_eq h
  rw [Op.equal, show Op.maxDepth = 9999 + 1 from rfl, Op.equalIn]
  simp only [Sem.run_bind, run_underlying he, Result.andThen_ok]
  cases a <;> rfl
theorem guard_ptr {P : Program} {op : BinOp} {t : TypeId} {x y : Operand} {a b : Option Addr} (w : World) : (eqGuard op t x y (.pointer a) (.pointer b)).run P w = .ok () w := by
  unfold eqGuard; simp
section
variable {P : Program} {F : Frm} {L : Tab} {d : Option Tmp} {ty : TypeId} {pos : String} {aft : Array Edge} {g : Option (Nat × Bool)} {ρ : Operand → AV} {hp : List Blk} {K : AV → List Blk → Prop}
theorem lo_nil {t t' : TypeId} {x y : Operand} {v : AV} {c : Bool} (hx : ρ x = v) (hv : ∀ M u, RA M v u → ∃ a : Option Addr, u = .pointer a ∧ a.isNone = c) (hy : ρ y = .c (.lit (.pointer none))) (hu : isPtr P t = true) (h : K (.c (.lit (.bool c))) hp) : LO P F ⟨d, .binOp .eql t x y t', ty, pos, aft, g⟩ ρ hp K := by
  refine LO.same (fun M e w he hh => ?_) h
  have h1 := he x (by first | (simp [Op.operands]; done) | simp [Op.operands, Call.operands])
  rw [hx] at h1
  obtain ⟨a, ha, hc⟩ := hv M _ h1
  have h2 := he y (by first | (simp [Op.operands]; done) | simp [Op.operands, Call.operands])
  rw [hy] at h2
  simp only [RA, RT] at h2
  refine ⟨.bool c, ?_, by simp only [RA, RT]⟩
  simp [execOp, ha, h2, guard_ptr, binOp, run_nil hu, hc]
theorem lo_nnil {t t' : TypeId} {x y : Operand} {v : AV} {c : Bool} (hx : ρ x = v) (hv : ∀ M u, RA M v u → ∃ a : Option Addr, u = .pointer a ∧ a.isNone = c) (hy : ρ y = .c (.lit (.pointer none))) (hu : isPtr P t = true) (h : K (.c (.lit (.bool (!c)))) hp) : LO P F ⟨d, .binOp .neq t x y t', ty, pos, aft, g⟩ ρ hp K := by
  refine LO.same (fun M e w he hh => ?_) h
  have h1 := he x (by first | (simp [Op.operands]; done) | simp [Op.operands, Call.operands])
  rw [hx] at h1
  obtain ⟨a, ha, hc⟩ := hv M _ h1
  have h2 := he y (by first | (simp [Op.operands]; done) | simp [Op.operands, Call.operands])
  rw [hy] at h2
  simp only [RA, RT] at h2
  refine ⟨.bool (!c), ?_, by simp only [RA, RT]⟩
  simp [execOp, ha, h2, guard_ptr, binOp, run_nil hu, hc]
theorem pin_some (cs : List T) (off : Nat) (M : Mm) (u : Value) (h : RA M (.c (.pin cs off)) u) : ∃ a : Option Addr, u = .pointer a ∧ a.isNone = false := by
  simp only [RA, RT] at h
  obtain ⟨ad, xs, rfl, _⟩ := h
  exact ⟨_, rfl, rfl⟩
theorem nil_none (M : Mm) (u : Value) (h : RA M (.c (.lit (.pointer none))) u) : ∃ a : Option Addr, u = .pointer a ∧ a.isNone = true := by
  simp only [RA, RT] at h
  exact ⟨_, h, rfl⟩
theorem ptr_some (i b off : Nat) (M : Mm) (u : Value) (h : RA M (.ptr i b off) u) : ∃ a : Option Addr, u = .pointer a ∧ a.isNone = false := by
  simp only [RA] at h
  exact ⟨_, h, rfl⟩
variable {t t' : TypeId} {x y : Operand} {cs : List T} {off i b : Nat}
theorem zQ1 (h : K (.c (.lit (.bool false))) hp) (hx : ρ x = .c (.pin cs off) := by exact rfl) (hy : ρ y = .c (.lit (.pointer none)) := by exact rfl) (hu : isPtr P t = true := by kernel_rfl) : LO P F ⟨d, .binOp .eql t x y t', ty, pos, aft, g⟩ ρ hp K := lo_nil hx (pin_some cs off) hy hu h
theorem zQ2 (h : K (.c (.lit (.bool true))) hp) (hx : ρ x = .c (.lit (.pointer none)) := by exact rfl) (hy : ρ y = .c (.lit (.pointer none)) := by exact rfl) (hu : isPtr P t = true := by kernel_rfl) : LO P F ⟨d, .binOp .eql t x y t', ty, pos, aft, g⟩ ρ hp K := lo_nil hx nil_none hy hu h
theorem zQ3 (h : K (.c (.lit (.bool false))) hp) (hx : ρ x = .ptr i b off := by exact rfl) (hy : ρ y = .c (.lit (.pointer none)) := by exact rfl) (hu : isPtr P t = true := by kernel_rfl) : LO P F ⟨d, .binOp .eql t x y t', ty, pos, aft, g⟩ ρ hp K := lo_nil hx (ptr_some i b off) hy hu h
theorem zQ4 (h : K (.c (.lit (.bool true))) hp) (hx : ρ x = .c (.pin cs off) := by exact rfl) (hy : ρ y = .c (.lit (.pointer none)) := by exact rfl) (hu : isPtr P t = true := by kernel_rfl) : LO P F ⟨d, .binOp .neq t x y t', ty, pos, aft, g⟩ ρ hp K := lo_nnil hx (pin_some cs off) hy hu h
theorem zQ5 (h : K (.c (.lit (.bool false))) hp) (hx : ρ x = .c (.lit (.pointer none)) := by exact rfl) (hy : ρ y = .c (.lit (.pointer none)) := by exact rfl) (hu : isPtr P t = true := by kernel_rfl) : LO P F ⟨d, .binOp .neq t x y t', ty, pos, aft, g⟩ ρ hp K := lo_nnil hx nil_none hy hu h
theorem zQ6 (h : K (.c (.lit (.bool true))) hp) (hx : ρ x = .ptr i b off := by exact rfl) (hy : ρ y = .c (.lit (.pointer none)) := by exact rfl) (hu : isPtr P t = true := by kernel_rfl) : LO P F ⟨d, .binOp .neq t x y t', ty, pos, aft, g⟩ ρ hp K := lo_nnil hx (ptr_some i b off) hy hu h
theorem lo_nck {v : AV} (hx : ρ x = v) (hv : ∀ M u, RA M v u → ∃ a : Option Addr, u = .pointer a ∧ a.isNone = false) (h : K v hp) : LO P F ⟨d, .nilCheck x, ty, pos, aft, g⟩ ρ hp K := by
  refine LO.same (fun M e w he hh => ?_) h
  have h1 := he x (by first | (simp [Op.operands]; done) | simp [Op.operands, Call.operands])
  rw [hx] at h1
  obtain ⟨a, ha, hc⟩ := hv M _ h1
  cases a with
  | none => cases hc
  | some a => exact ⟨.pointer (some a), by simp [execOp, ha], by rw [← ha]; exact h1⟩
theorem zK1 (h : K (.c (.pin cs off)) hp) (hx : ρ x = .c (.pin cs off) := by exact rfl) : LO P F ⟨d, .nilCheck x, ty, pos, aft, g⟩ ρ hp K := lo_nck hx (pin_some cs off) h
theorem zK2 (h : K (.ptr i b off) hp) (hx : ρ x = .ptr i b off := by exact rfl) : LO P F ⟨d, .nilCheck x, ty, pos, aft, g⟩ ρ hp K := lo_nck hx (ptr_some i b off) h
end
end Go.Proofs.Ythgackidonocpaa
namespace Go.Proofs.Ythgackidonocpaa
open Go.RowKit
section
variable {P : Program} {F : Frm} {L : Tab} {d : Option Tmp} {ty : TypeId} {pos : String} {aft : Array Edge} {g : Option (Nat × Bool)} {ρ : Operand → AV} {hp : List Blk} {K : AV → List Blk → Prop}
theorem lo_box_frz {t : TypeId} {x : Operand} {v : AV} {ts : List T} (hv : ρ x = v) (h1 : allOne (cellsA v) = true) (hz : Rzs [] (cellsA v) ts) (h : K (.c (.pin ts 0)) hp) : LO P F ⟨d, .box t x, ty, pos, aft, g⟩ ρ hp K := by
  refine ⟨fun M e w he hh => ?_⟩
  have hx := he x (by first | (simp [Op.operands]; done) | simp [Op.operands, Call.operands])
  rw [hv] at hx
  obtain ⟨hc, ho⟩ := cells_of hx h1
  have : (execOp e ⟨d, .box t x, ty, pos, aft, g⟩).run P w = .ok (.value (.pointer (some ⟨w.heap.size, 0, none⟩))) (w.alloc (.cells (e x).cells t)) := by
    simp [execOp, Instr.box, newVar, newRow]
  rw [this]
  have hyt := cls_sound _ _ _ hz hc
  have hb : Below w.heap.size w (w.alloc (.cells (e x).cells t)) := (Below.refl _ _).alloc (Nat.le_refl _) _
  have hm0 := hh.mem.below hb
  have hM := frz_ext (M := M) w.heap.size (w.alloc (.cells (e x).cells t))
  refine ⟨frz M w.heap.size (w.alloc (.cells (e x).cells t)), _, hp, h, (hM.low hh.frm.size), hh.below hb hM (frz_ok hm0 _), ?_⟩
  simp only [RA, RT]
  refine ⟨⟨w.heap.size, 0, none⟩, (e x).cells.toList, by rw [box_add], fun j u hj => ?_, RTs.mono hM.sub _ _ hyt⟩
  have hadd : (⟨w.heap.size, 0, none⟩ : Addr).add j = ⟨w.heap.size, j, none⟩ := by rw [box_add]; simp
  rw [hadd]
  refine frz_new (mem_fresh hh.mem (Nat.le_refl _)) (Nat.le_refl _) ?_ (ho u (List.mem_of_getElem? hj))
  rw [World.cell?_alloc_new]
  simpa using hj
theorem zBf {t : TypeId} {x : Operand} {v : AV} {cs : List AV} {ts : List T} (h : K (.c (.pin ts 0)) hp) (hv : fc (ρ x) = some v := by exact rfl) (hc : evl (cellsA v) = some cs := by exact rfl) (h1 : allOne cs = true := by first | exact rfl | assumption) (hz : Rzs [] cs ts := by repeat (first | exact rzs_nil | apply rzs_cons | exact rz_c | exact rz_nil rfl | apply rz_agg | apply rz_fn | apply rz_tup)) : LO P F ⟨d, .box t x, ty, pos, aft, g⟩ ρ hp K :=
  lo_box_frz (fc_eq hv) (by rw [← evl_eq hc]; exact h1) (by rw [← evl_eq hc]; exact hz) h
end
end Go.Proofs.Ythgackidonocpaa
namespace Go.Proofs.Ythgackidonocpaa
open Go.RowKit
structure Hold (G : Prop) : Prop where
  out : G
/-- operations and control, asq far asq they are plain -/
theorem gG {G G' : Prop} (h : G') (e : Hold G' → G := by
    intro h
    first | refine zNil ?_ | refine zOp ?_ | refine zOpn ?_ | refine zNo ?_ | refine zNon ?_ | refine zUn ?_ | refine zUnn ?_ | refine zYes ?_ | refine zYesn ?_ | (refine zkL ?_; first | refine zL1 ?_ | refine zL2 ?_ | refine zL3 ?_ | refine zLp ?_) | refine zM ?_ | (refine zkF ?_; first | refine zF1 ?_ | refine zF2 ?_ | refine zF3 ?_) | refine zA ?_ | (refine zkB ?_; first | refine zC5 ?_ | refine zC6 ?_ | refine zC1 ?_ | refine zC2 ?_ | refine zC3 ?_ | refine zC4 ?_ | refine zS5 ?_ | refine zS6 ?_ | refine zS1 ?_ | refine zS2 ?_ | refine zS3 ?_ | refine zS4 ?_ | refine zInc ?_ | refine zQ1 ?_ | refine zQ2 ?_ | refine zQ3 ?_ | refine zQ4 ?_ | refine zQ5 ?_ | refine zQ6 ?_) | (refine zkI ?_; first | refine zN3 ?_ | refine zN4 ?_) | refine zS ?_ | refine zPt ?_ | refine zPf ?_ | refine zE ?_ | refine zEA ?_ | refine zNot ?_ | refine zBd ?_ | refine zFn ?_ | refine zK1 ?_ | refine zK2 ?_ | refine zBs ?_ | refine ac_seq ?_ | refine ac_block ?_ | refine ac_region ?_ | refine ac_skip ?_ | refine ac_exit ?_ | refine ac_ret ?_ | refine zT ?_ | refine zF ?_
    repeat (first | refine zNil ?_ | refine zOp ?_ | refine zOpn ?_ | refine zNo ?_ | refine zNon ?_ | refine zUn ?_ | refine zUnn ?_ | refine zYes ?_ | refine zYesn ?_ | (refine zkL ?_; first | refine zL1 ?_ | refine zL2 ?_ | refine zL3 ?_ | refine zLp ?_) | refine zM ?_ | (refine zkF ?_; first | refine zF1 ?_ | refine zF2 ?_ | refine zF3 ?_) | refine zA ?_ | (refine zkB ?_; first | refine zC5 ?_ | refine zC6 ?_ | refine zC1 ?_ | refine zC2 ?_ | refine zC3 ?_ | refine zC4 ?_ | refine zS5 ?_ | refine zS6 ?_ | refine zS1 ?_ | refine zS2 ?_ | refine zS3 ?_ | refine zS4 ?_ | refine zInc ?_ | refine zQ1 ?_ | refine zQ2 ?_ | refine zQ3 ?_ | refine zQ4 ?_ | refine zQ5 ?_ | refine zQ6 ?_) | (refine zkI ?_; first | refine zN3 ?_ | refine zN4 ?_) | refine zS ?_ | refine zPt ?_ | refine zPf ?_ | refine zE ?_ | refine zEA ?_ | refine zNot ?_ | refine zBd ?_ | refine zFn ?_ | refine zK1 ?_ | refine zK2 ?_ | refine zBs ?_ | refine ac_seq ?_ | refine ac_block ?_ | refine ac_region ?_ | refine ac_skip ?_ | refine ac_exit ?_ | refine ac_ret ?_ | refine zT ?_ | refine zF ?_)
    exact h.out) : G := e ⟨h⟩
/-- the same, but no rows that are written out -/
theorem gX {G G' : Prop} (h : G') (e : Hold G' → G := by
    intro h
    first | refine zNil ?_ | refine zOp ?_ | refine zOpn ?_ | refine zNo ?_ | refine zNon ?_ | refine zUn ?_ | refine zUnn ?_ | refine zYes ?_ | refine zYesn ?_ | (refine zkL ?_; first | refine zL1 ?_ | refine zL2 ?_ | refine zL3 ?_ | refine zLp ?_) | refine zM ?_ | (refine zkF ?_; first | refine zF1 ?_ | refine zF2 ?_ | refine zF3 ?_) | refine zA ?_ | (refine zkB ?_; first | refine zC5 ?_ | refine zC6 ?_ | refine zC1 ?_ | refine zC2 ?_ | refine zC3 ?_ | refine zC4 ?_ | refine zS5 ?_ | refine zS6 ?_ | refine zS1 ?_ | refine zS2 ?_ | refine zS3 ?_ | refine zS4 ?_ | refine zInc ?_ | refine zQ1 ?_ | refine zQ2 ?_ | refine zQ3 ?_ | refine zQ4 ?_ | refine zQ5 ?_ | refine zQ6 ?_) | (refine zkI ?_; first | refine zN3 ?_ | refine zN4 ?_) | refine zS ?_ | refine zPt ?_ | refine zPf ?_ | refine zE ?_ | refine zEA ?_ | refine zNot ?_ | refine zBd ?_ | refine zFn ?_ | refine zK1 ?_ | refine zK2 ?_ | refine ac_seq ?_ | refine ac_block ?_ | refine ac_region ?_ | refine ac_skip ?_ | refine ac_exit ?_ | refine ac_ret ?_ | refine zT ?_ | refine zF ?_
    repeat (first | refine zNil ?_ | refine zOp ?_ | refine zOpn ?_ | refine zNo ?_ | refine zNon ?_ | refine zUn ?_ | refine zUnn ?_ | refine zYes ?_ | refine zYesn ?_ | (refine zkL ?_; first | refine zL1 ?_ | refine zL2 ?_ | refine zL3 ?_ | refine zLp ?_) | refine zM ?_ | (refine zkF ?_; first | refine zF1 ?_ | refine zF2 ?_ | refine zF3 ?_) | refine zA ?_ | (refine zkB ?_; first | refine zC5 ?_ | refine zC6 ?_ | refine zC1 ?_ | refine zC2 ?_ | refine zC3 ?_ | refine zC4 ?_ | refine zS5 ?_ | refine zS6 ?_ | refine zS1 ?_ | refine zS2 ?_ | refine zS3 ?_ | refine zS4 ?_ | refine zInc ?_ | refine zQ1 ?_ | refine zQ2 ?_ | refine zQ3 ?_ | refine zQ4 ?_ | refine zQ5 ?_ | refine zQ6 ?_) | (refine zkI ?_; first | refine zN3 ?_ | refine zN4 ?_) | refine zS ?_ | refine zPt ?_ | refine zPf ?_ | refine zE ?_ | refine zEA ?_ | refine zNot ?_ | refine zBd ?_ | refine zFn ?_ | refine zK1 ?_ | refine zK2 ?_ | refine ac_seq ?_ | refine ac_block ?_ | refine ac_region ?_ | refine ac_skip ?_ | refine ac_exit ?_ | refine ac_ret ?_ | refine zT ?_ | refine zF ?_)
    exact h.out) : G := e ⟨h⟩
/-- operations alone -/
theorem gO {G G' : Prop} (h : G') (e : Hold G' → G := by
    intro h
    first | refine zNil ?_ | refine zOp ?_ | refine zOpn ?_ | refine zNo ?_ | refine zNon ?_ | refine zUn ?_ | refine zUnn ?_ | refine zYes ?_ | refine zYesn ?_ | (refine zkL ?_; first | refine zL1 ?_ | refine zL2 ?_ | refine zL3 ?_ | refine zLp ?_) | refine zM ?_ | (refine zkF ?_; first | refine zF1 ?_ | refine zF2 ?_ | refine zF3 ?_) | refine zA ?_ | (refine zkB ?_; first | refine zC5 ?_ | refine zC6 ?_ | refine zC1 ?_ | refine zC2 ?_ | refine zC3 ?_ | refine zC4 ?_ | refine zS5 ?_ | refine zS6 ?_ | refine zS1 ?_ | refine zS2 ?_ | refine zS3 ?_ | refine zS4 ?_ | refine zInc ?_ | refine zQ1 ?_ | refine zQ2 ?_ | refine zQ3 ?_ | refine zQ4 ?_ | refine zQ5 ?_ | refine zQ6 ?_) | (refine zkI ?_; first | refine zN3 ?_ | refine zN4 ?_) | refine zS ?_ | refine zPt ?_ | refine zPf ?_ | refine zE ?_ | refine zEA ?_ | refine zNot ?_ | refine zBd ?_ | refine zFn ?_ | refine zK1 ?_ | refine zK2 ?_ | refine zBs ?_
    repeat (first | refine zNil ?_ | refine zOp ?_ | refine zOpn ?_ | refine zNo ?_ | refine zNon ?_ | refine zUn ?_ | refine zUnn ?_ | refine zYes ?_ | refine zYesn ?_ | (refine zkL ?_; first | refine zL1 ?_ | refine zL2 ?_ | refine zL3 ?_ | refine zLp ?_) | refine zM ?_ | (refine zkF ?_; first | refine zF1 ?_ | refine zF2 ?_ | refine zF3 ?_) | refine zA ?_ | (refine zkB ?_; first | refine zC5 ?_ | refine zC6 ?_ | refine zC1 ?_ | refine zC2 ?_ | refine zC3 ?_ | refine zC4 ?_ | refine zS5 ?_ | refine zS6 ?_ | refine zS1 ?_ | refine zS2 ?_ | refine zS3 ?_ | refine zS4 ?_ | refine zInc ?_ | refine zQ1 ?_ | refine zQ2 ?_ | refine zQ3 ?_ | refine zQ4 ?_ | refine zQ5 ?_ | refine zQ6 ?_) | (refine zkI ?_; first | refine zN3 ?_ | refine zN4 ?_) | refine zS ?_ | refine zPt ?_ | refine zPf ?_ | refine zE ?_ | refine zEA ?_ | refine zNot ?_ | refine zBd ?_ | refine zFn ?_ | refine zK1 ?_ | refine zK2 ?_ | refine zBs ?_)
    exact h.out) : G := e ⟨h⟩
/-- operations of a region that draws, asq long asq they only look -/
theorem gW {G G' : Prop} (h : G') (e : Hold G' → G := by
    intro h
    first | (apply w_q; (focus exact rfl); (focus exact rfl); focus (intro _; (first | (refine zkL ?_; first | refine zL1 ?_ | refine zL2 ?_ | refine zL3 ?_ | refine zLp ?_) | refine zM ?_ | (refine zkF ?_; first | refine zF1 ?_ | refine zF2 ?_ | refine zF3 ?_) | refine zA ?_ | (refine zkB ?_; first | refine zC5 ?_ | refine zC6 ?_ | refine zC1 ?_ | refine zC2 ?_ | refine zC3 ?_ | refine zC4 ?_ | refine zS5 ?_ | refine zS6 ?_ | refine zS1 ?_ | refine zS2 ?_ | refine zS3 ?_ | refine zS4 ?_ | refine zInc ?_ | refine zQ1 ?_ | refine zQ2 ?_ | refine zQ3 ?_ | refine zQ4 ?_ | refine zQ5 ?_ | refine zQ6 ?_) | (refine zkI ?_; first | refine zN3 ?_ | refine zN4 ?_) | refine zPt ?_ | refine zPf ?_ | refine zE ?_ | refine zEA ?_ | refine zNot ?_ | refine zBd ?_ | refine zBs ?_ | refine zFn ?_ | refine zK1 ?_ | refine zK2 ?_ | (refine zkI ?_; first | refine zN1 (fun _ => ?_) | refine zN2 (fun _ => ?_))); exact det_refl)) | (apply w_p; (focus exact rfl); (focus exact rfl); focus (intro _; (first | (refine zkL ?_; first | refine zL1 ?_ | refine zL2 ?_ | refine zL3 ?_ | refine zLp ?_) | refine zM ?_ | (refine zkF ?_; first | refine zF1 ?_ | refine zF2 ?_ | refine zF3 ?_) | refine zA ?_ | (refine zkB ?_; first | refine zC5 ?_ | refine zC6 ?_ | refine zC1 ?_ | refine zC2 ?_ | refine zC3 ?_ | refine zC4 ?_ | refine zS5 ?_ | refine zS6 ?_ | refine zS1 ?_ | refine zS2 ?_ | refine zS3 ?_ | refine zS4 ?_ | refine zInc ?_ | refine zQ1 ?_ | refine zQ2 ?_ | refine zQ3 ?_ | refine zQ4 ?_ | refine zQ5 ?_ | refine zQ6 ?_) | (refine zkI ?_; first | refine zN3 ?_ | refine zN4 ?_) | refine zPt ?_ | refine zPf ?_ | refine zE ?_ | refine zEA ?_ | refine zNot ?_ | refine zBd ?_ | refine zBs ?_ | refine zFn ?_ | refine zK1 ?_ | refine zK2 ?_ | (refine zkI ?_; first | refine zN1 (fun _ => ?_) | refine zN2 (fun _ => ?_))); exact det_refl)) | (apply w_un; (focus exact rfl); (focus exact rfl); (focus exact rfl); (focus exact rfl)) | (apply w_no; (focus exact rfl); (focus exact rfl); (focus exact rfl); (focus exact rfl); focus (first | rfl | assumption | exact neg_t (by assumption) | exact neg_f (by assumption))) | (apply w_qg; (focus exact rfl); (focus exact rfl); (focus exact rfl); (focus exact rfl); (focus (first | rfl | assumption | exact neg_t (by assumption) | exact neg_f (by assumption))); (focus (intro _; (first | (refine zkL ?_; first | refine zL1 ?_ | refine zL2 ?_ | refine zL3 ?_ | refine zLp ?_) | refine zM ?_ | (refine zkF ?_; first | refine zF1 ?_ | refine zF2 ?_ | refine zF3 ?_) | refine zA ?_ | (refine zkB ?_; first | refine zC5 ?_ | refine zC6 ?_ | refine zC1 ?_ | refine zC2 ?_ | refine zC3 ?_ | refine zC4 ?_ | refine zS5 ?_ | refine zS6 ?_ | refine zS1 ?_ | refine zS2 ?_ | refine zS3 ?_ | refine zS4 ?_ | refine zInc ?_ | refine zQ1 ?_ | refine zQ2 ?_ | refine zQ3 ?_ | refine zQ4 ?_ | refine zQ5 ?_ | refine zQ6 ?_) | (refine zkI ?_; first | refine zN3 ?_ | refine zN4 ?_) | refine zPt ?_ | refine zPf ?_ | refine zE ?_ | refine zEA ?_ | refine zNot ?_ | refine zBd ?_ | refine zBs ?_ | refine zFn ?_ | refine zK1 ?_ | refine zK2 ?_ | (refine zkI ?_; first | refine zN1 (fun _ => ?_) | refine zN2 (fun _ => ?_))); exact det_refl)))
    repeat (first | (apply w_q; (focus exact rfl); (focus exact rfl); focus (intro _; (first | (refine zkL ?_; first | refine zL1 ?_ | refine zL2 ?_ | refine zL3 ?_ | refine zLp ?_) | refine zM ?_ | (refine zkF ?_; first | refine zF1 ?_ | refine zF2 ?_ | refine zF3 ?_) | refine zA ?_ | (refine zkB ?_; first | refine zC5 ?_ | refine zC6 ?_ | refine zC1 ?_ | refine zC2 ?_ | refine zC3 ?_ | refine zC4 ?_ | refine zS5 ?_ | refine zS6 ?_ | refine zS1 ?_ | refine zS2 ?_ | refine zS3 ?_ | refine zS4 ?_ | refine zInc ?_ | refine zQ1 ?_ | refine zQ2 ?_ | refine zQ3 ?_ | refine zQ4 ?_ | refine zQ5 ?_ | refine zQ6 ?_) | (refine zkI ?_; first | refine zN3 ?_ | refine zN4 ?_) | refine zPt ?_ | refine zPf ?_ | refine zE ?_ | refine zEA ?_ | refine zNot ?_ | refine zBd ?_ | refine zBs ?_ | refine zFn ?_ | refine zK1 ?_ | refine zK2 ?_ | (refine zkI ?_; first | refine zN1 (fun _ => ?_) | refine zN2 (fun _ => ?_))); exact det_refl)) | (apply w_p; (focus exact rfl); (focus exact rfl); focus (intro _; (first | (refine zkL ?_; first | refine zL1 ?_ | refine zL2 ?_ | refine zL3 ?_ | refine zLp ?_) | refine zM ?_ | (refine zkF ?_; first | refine zF1 ?_ | refine zF2 ?_ | refine zF3 ?_) | refine zA ?_ | (refine zkB ?_; first | refine zC5 ?_ | refine zC6 ?_ | refine zC1 ?_ | refine zC2 ?_ | refine zC3 ?_ | refine zC4 ?_ | refine zS5 ?_ | refine zS6 ?_ | refine zS1 ?_ | refine zS2 ?_ | refine zS3 ?_ | refine zS4 ?_ | refine zInc ?_ | refine zQ1 ?_ | refine zQ2 ?_ | refine zQ3 ?_ | refine zQ4 ?_ | refine zQ5 ?_ | refine zQ6 ?_) | (refine zkI ?_; first | refine zN3 ?_ | refine zN4 ?_) | refine zPt ?_ | refine zPf ?_ | refine zE ?_ | refine zEA ?_ | refine zNot ?_ | refine zBd ?_ | refine zBs ?_ | refine zFn ?_ | refine zK1 ?_ | refine zK2 ?_ | (refine zkI ?_; first | refine zN1 (fun _ => ?_) | refine zN2 (fun _ => ?_))); exact det_refl)) | (apply w_un; (focus exact rfl); (focus exact rfl); (focus exact rfl); (focus exact rfl)) | (apply w_no; (focus exact rfl); (focus exact rfl); (focus exact rfl); (focus exact rfl); focus (first | rfl | assumption | exact neg_t (by assumption) | exact neg_f (by assumption))) | (apply w_qg; (focus exact rfl); (focus exact rfl); (focus exact rfl); (focus exact rfl); (focus (first | rfl | assumption | exact neg_t (by assumption) | exact neg_f (by assumption))); (focus (intro _; (first | (refine zkL ?_; first | refine zL1 ?_ | refine zL2 ?_ | refine zL3 ?_ | refine zLp ?_) | refine zM ?_ | (refine zkF ?_; first | refine zF1 ?_ | refine zF2 ?_ | refine zF3 ?_) | refine zA ?_ | (refine zkB ?_; first | refine zC5 ?_ | refine zC6 ?_ | refine zC1 ?_ | refine zC2 ?_ | refine zC3 ?_ | refine zC4 ?_ | refine zS5 ?_ | refine zS6 ?_ | refine zS1 ?_ | refine zS2 ?_ | refine zS3 ?_ | refine zS4 ?_ | refine zInc ?_ | refine zQ1 ?_ | refine zQ2 ?_ | refine zQ3 ?_ | refine zQ4 ?_ | refine zQ5 ?_ | refine zQ6 ?_) | (refine zkI ?_; first | refine zN3 ?_ | refine zN4 ?_) | refine zPt ?_ | refine zPf ?_ | refine zE ?_ | refine zEA ?_ | refine zNot ?_ | refine zBd ?_ | refine zBs ?_ | refine zFn ?_ | refine zK1 ?_ | refine zK2 ?_ | (refine zkI ?_; first | refine zN1 (fun _ => ?_) | refine zN2 (fun _ => ?_))); exact det_refl))))
    exact h.out) : G := e ⟨h⟩
end Go.Proofs.Ythgackidonocpaa
namespace Go.Proofs.Ythgackidonocpaa
open Go.RowKit
theorem HeapOk.take {F : Frm} {M : Mm} {hp : List Blk} {w : World} (h : HeapOk F M hp w) (k : Nat) : HeapOk F M (hp.take k) w := by
  have hg : ∀ (i : Nat) (x : Blk), (hp.take k)[i]? = some x → hp[i]? = some x := by
    intro i x hx
    rw [List.getElem?_take] at hx
    split at hx
    · exact hx
    · cases hx
  exact ⟨h.mem, h.ext, h.frm, fun i x hx => h.at_ i x (hg i x hx), fun i j x y b hx hy => h.sep i j x y b (hg i x hx) (hg j y hy), fun i x b hx => h.out i x b (hg i x hx)⟩
/-- the function, given values that read so and blocks of the caller's own, returns a value that reads so, the blocks turned -/
def AG (P : Program) (f : FuncId) (asq : List AV) (hs : List Blk) (R : AV → List Blk → Prop) : Prop :=
  Enters P f ∧ ∀ (F : Frm) (M : Mm) (w : World) (vs : List Value), HeapOk F M hs w → RAs M asq vs →
    Calls P f vs.toArray w fun e w' => ∃ v r hs' M', e = .returned v ∧ R r hs' ∧ Ext F.may M M' ∧ HeapOk F M' hs' w' ∧ RA M' r v
theorem AG.imp {P : Program} {f : FuncId} {asq : List AV} {hs : List Blk} {R R' : AV → List Blk → Prop} (h : AG P f asq hs R) (hi : ∀ r hs, R r hs → R' r hs) : AG P f asq hs R' :=
  ⟨h.1, fun F M w vs hM hv => (h.2 F M w vs hM hv).mono fun _ _ ⟨v, r, hs', M', h1, h2, h3⟩ => ⟨v, r, hs', M', h1, hi r hs' h2, h3⟩⟩
/-- the end of such a function: the first k blocks are handed back -/
structure FinG (L : Tab) (res : List ResultVar) (k : Nat) (R : AV → List Blk → Prop) (e : Exit) (σ : AS) : Prop where
  out : (e = .normal ∨ e = .ret) ∧ ∃ vs, OutsA L σ res vs ∧ R (outA vs) (σ.hp.take k)
section
variable {P : Program} {F : Frm} {L : Tab}
theorem ag_enter {f : FuncId} {fn : Func} {c : Code} {asq : List AV} {hs : List Blk} {R : AV → List Blk → Prop} {N : Nat} {res : List ResultVar} (k : Nat) (hL : TabOk P L) (hf : P.funcs[f]? = some fn) (hNt : fn.ntmps = N) (hres : fn.results = res.toArray) (hb : fn.body = some c) (hn : (fn.name == "runtime.NumGoroutine") = false) (hN : Nat.ble asq.length N = true)
    (h : ∀ F, AC P F c (FinG L res k R) ⟨initT N asq, hs, N⟩) : AG P f asq hs R := by
  refine ⟨⟨fn, hf, hn, by rw [hb]; rfl⟩, fun F M w vs hh hav => ?_⟩
  have hlen := hav.len
  have hNl := Nat.le_of_ble_eq_true hN
  refine calls_of_wp hf hb (wp_mono ((h ⟨F.w0, F.X, M⟩).out M _ w ⟨?_, ?_, rfl, ⟨hh.mem, Ext.refl _ _, ⟨hh.frm.os, hh.frm.tape, hh.frm.output, hh.frm.size, hh.frm.block⟩, hh.at_, hh.sep, hh.out⟩⟩) ?_)
  · intro i
    simp only [initT]
    by_cases hi : i < asq.length
    · have : Nat.blt i N = true := Nat.ble_eq_true_of_le (by omega)
      rw [this, cond_true]
      have h1 : asq[i]? = some asq[i] := List.getElem?_eq_getElem hi
      obtain ⟨x, hx, hra⟩ := hav.get h1
      rw [List.getD_eq_getElem?_getD, h1]
      have h2 : i < vs.length := by omega
      have h3 : vs[i] = x := by rw [List.getElem?_eq_getElem h2] at hx; injection hx
      simp [Array.getD_eq_getD_getElem?, Array.getElem?_append, h2, h3]
      exact hra
    · have h1 : asq.getD i (.c (.lit undef)) = .c (.lit undef) := by
        rw [List.getD_eq_getElem?_getD, List.getElem?_eq_none (by omega)]; rfl
      rw [h1]
      have h2 : ¬ i < vs.length := by omega
      have h3 : (vs.toArray ++ Array.replicate (fn.ntmps - vs.toArray.size) undef).getD i undef = undef := by
        simp [Array.getD_eq_getD_getElem?, Array.getElem?_append, h2, Array.getElem?_replicate]
        split <;> rfl
      rw [h3]
      cases Nat.blt i N <;> simp only [cond_true, cond_false, RA, RT]
  · simp [hNt]; omega
  · rintro e' a' w' ⟨M', σ', ⟨⟨he', vs', ho, hK⟩⟩, hr⟩
    rw [show res = fn.results.toList by rw [hres]] at ho
    obtain ⟨u, hu', hRA⟩ := resultsA_sound hL hr ho
    have hx : Ext F.may M M' := hr.heap.ext
    have hh' : HeapOk F M' σ'.hp w' := ⟨hr.heap.mem, hh.ext.trans hx, ⟨hr.heap.frm.os, hr.heap.frm.tape, hr.heap.frm.output, hr.heap.frm.size, hr.heap.frm.block⟩, hr.heap.at_, hr.heap.sep, hr.heap.out⟩
    have hfin : a'.defers = [] ∧ ∃ v, (results fn a'.tmps).run P w' = .ok v w' ∧ ∃ v' r hs' M', Ending.returned v = .returned v' ∧ R r hs' ∧ Ext F.may M M' ∧ HeapOk F M' hs' w' ∧ RA M' r v' :=
      ⟨hr.defers, u, hu', u, outA vs', σ'.hp.take k, M', rfl, hK, hx, hh'.take k, hRA⟩
    rcases he' with rfl | rfl <;> exact hfin
end
def selB (hp : List Blk) : List Nat → Option (List Blk)
  | [] => some []
  | i :: is => match hp[i]?, selB hp is with | some x, some r => some (x :: r) | _, _ => none
def freshB : List Nat → Bool
  | [] => true
  | i :: is => !is.contains i && freshB is
def putB (hp : List Blk) : List Nat → List Blk → List Blk
  | [], hs => hp ++ hs
  | _ :: _, [] => hp
  | i :: is, x :: hs => (putB hp is hs).set i x
def posB (hp : List Blk) (sel : List Nat) (i : Nat) : Nat := match sel[i]? with | some j => j | none => hp.length + (i - sel.length)
theorem selB_get {hp : List Blk} : ∀ {sel : List Nat} {hs : List Blk}, selB hp sel = some hs → ∀ {i : Nat} {x : Blk}, hs[i]? = some x → ∃ j : Nat, sel[i]? = some j ∧ hp[j]? = some x
  | [], hs, h, i, x, hx => by simp only [selB, Option.some.injEq] at h; subst h; simp at hx
  | k :: is, hs, h, i, x, hx => by
    simp only [selB] at h
    cases h1 : hp[k]? with
    | none => rw [h1] at h; cases h
    | some y =>
      cases h2 : selB hp is with
      | none => rw [h1, h2] at h; cases h
      | some r =>
        rw [h1, h2] at h
        simp only [Option.some.injEq] at h
        subst h
        cases i with
        | zero => simp only [List.getElem?_cons_zero, Option.some.injEq] at hx; subst hx; exact ⟨k, rfl, h1⟩
        | succ i => obtain ⟨j, h3, h4⟩ := selB_get h2 (i := i) (by simpa using hx); exact ⟨j, by simpa using h3, h4⟩
theorem freshB_inj : ∀ {sel : List Nat}, freshB sel = true → ∀ {i i' j : Nat}, sel[i]? = some j → sel[i']? = some j → i = i'
  | [], _, i, i', j, h, _ => by simp at h
  | k :: is, hf, i, i', j, h, h' => by
    simp only [freshB, Bool.and_eq_true, Bool.not_eq_true', List.contains_eq_mem, decide_eq_false_iff_not] at hf
    cases i with
    | zero =>
      simp only [List.getElem?_cons_zero, Option.some.injEq] at h
      cases i' with
      | zero => rfl
      | succ i' => simp only [List.getElem?_cons_succ] at h'; exact absurd (h ▸ List.mem_of_getElem? h') hf.1
    | succ i =>
      simp only [List.getElem?_cons_succ] at h
      cases i' with
      | zero => simp only [List.getElem?_cons_zero, Option.some.injEq] at h'; exact absurd (h' ▸ List.mem_of_getElem? h) hf.1
      | succ i' => simp only [List.getElem?_cons_succ] at h'; rw [freshB_inj hf.2 h h']
theorem putB_get {hp : List Blk} : ∀ {sel : List Nat} {hs : List Blk}, sel.length ≤ hs.length → ∀ {j : Nat} {x : Blk}, (putB hp sel hs)[j]? = some x → (∃ i, j = posB hp sel i ∧ hs[i]? = some x) ∨ (hp[j]? = some x ∧ j ∉ sel)
  | [], hs, _, j, x, h => by
    simp only [putB] at h
    rcases Nat.lt_or_ge j hp.length with hj | hj
    · rw [List.getElem?_append_left hj] at h
      exact .inr ⟨h, by simp⟩
    · rw [List.getElem?_append_right hj] at h
      exact .inl ⟨j - hp.length, by simp only [posB, List.getElem?_nil, List.length_nil]; omega, h⟩
  | k :: is, [], hl, _, _, _ => by simp at hl
  | k :: is, y :: hs, hl, j, x, h => by
    simp only [putB, List.getElem?_set] at h
    split at h
    · rename_i hkj
      subst hkj
      split at h
      · exact .inl ⟨0, rfl, by simpa using h⟩
      · cases h
    · rename_i hkj
      rcases putB_get (by simpa using hl) h with ⟨i, h1, h2⟩ | ⟨h1, h2⟩
      · refine .inl ⟨i + 1, ?_, by simpa using h2⟩
        rw [h1]
        simp only [posB, List.getElem?_cons_succ, List.length_cons]
        split <;> omega
      · exact .inr ⟨h1, by simp [h2, Ne.symm hkj]⟩
def subF (M : Mm) (hs : List Blk) (w : World) : Frm := ⟨w, fun b => ∃ (i : Nat) (x : Blk), hs[i]? = some x ∧ x.blk = some b, M⟩
theorem heap_sel {F : Frm} {M : Mm} {hp hs : List Blk} {w : World} {sel : List Nat} (h : HeapOk F M hp w) (hs' : selB hp sel = some hs) (hf : freshB sel = true) : HeapOk (subF M hs w) M hs w := by
  refine ⟨h.mem, Ext.refl _ _, ⟨rfl, rfl, rfl, Nat.le_refl _, fun _ _ _ => rfl⟩, fun i x hx => ?_, fun i j x y b hx hy hxb hyb => ?_, fun i x b hx hxb => ?_⟩
  · obtain ⟨j, _, h2⟩ := selB_get hs' hx
    exact h.at_ j x h2
  · obtain ⟨k, h1, h2⟩ := selB_get hs' hx
    obtain ⟨k', h3, h4⟩ := selB_get hs' hy
    have := h.sep k k' x y b h2 h4 hxb hyb
    subst this
    exact freshB_inj hf h1 h3
  · obtain ⟨j, _, h2⟩ := selB_get hs' hx
    exact ⟨.inl ⟨i, x, hx, hxb⟩, (h.out j x b h2 hxb).2⟩
theorem sub_may {F : Frm} {M : Mm} {hp hs : List Blk} {w : World} {sel : List Nat} (h : HeapOk F M hp w) (hs' : selB hp sel = some hs) (b : Nat) (hb : (subF M hs w).may b) : F.may b := by
  rcases hb with ⟨i, x, hx, hxb⟩ | hb
  · obtain ⟨j, _, h2⟩ := selB_get hs' hx
    exact (h.out j x b h2 hxb).1
  · exact .inr (Nat.le_trans h.frm.size hb)
theorem heap_put {F : Frm} {M M' : Mm} {hp hs hs2 : List Blk} {w w' : World} {sel : List Nat} (h : HeapOk F M hp w) (hsl : selB hp sel = some hs) (hl : sel.length ≤ hs2.length) (h2 : HeapOk (subF M hs w) M' hs2 w') : HeapOk F M' (putB hp sel hs2) w' := by
  have hM : Ext (subF M hs w).may M M' := h2.ext
  have hX : ∀ b, (subF M hs w).X b → ∃ (j : Nat) (x : Blk), j ∈ sel ∧ hp[j]? = some x ∧ x.blk = some b := by
    rintro b ⟨i, x, hx, hb⟩
    obtain ⟨j, h3, h4⟩ := selB_get hsl hx
    exact ⟨j, x, List.mem_of_getElem? h3, h4, hb⟩
  have hold : ∀ (j : Nat) (x : Blk) (b : Nat), hp[j]? = some x → j ∉ sel → x.blk = some b → b < w.heap.size ∧ ¬ (subF M hs w).X b := by
    intro j x b hx hj hb
    refine ⟨(h.at_ j x hx).lt hb, fun hXb => ?_⟩
    obtain ⟨k, y, hk, hy, hyb⟩ := hX b hXb
    have := h.sep j k x y b hx hy hb hyb
    subst this
    exact hj hk
  refine ⟨h2.mem, h.ext.trans (hM.to (sub_may h hsl)), ⟨h2.frm.os.trans h.frm.os, h2.frm.tape.trans h.frm.tape, h2.frm.output.trans h.frm.output, Nat.le_trans h.frm.size h2.frm.size, fun b hb hnX => ?_⟩, fun j x hx => ?_, fun j k x y b hx hy hxb hyb => ?_, fun j x b hx hxb => ?_⟩
  · refine (h2.frm.block b (Nat.lt_of_lt_of_le hb h.frm.size) fun hXb => ?_).trans (h.frm.block b hb hnX)
    obtain ⟨k, y, _, hy, hyb⟩ := hX b hXb
    rcases (h.out k y b hy hyb).1 with h3 | h3
    · exact hnX h3
    · omega
  · rcases putB_get hl hx with ⟨i, _, hi⟩ | ⟨hj, hns⟩
    · exact h2.at_ i x hi
    · exact (h.at_ j x hj).keep hM.sub fun b hb hlt => h2.frm.block b hlt (hold j x b hj hns hb).2
  · rcases putB_get hl hx with ⟨i, hji, hi⟩ | ⟨hj, hns⟩
    · rcases putB_get hl hy with ⟨i', hji', hi'⟩ | ⟨hk, hns'⟩
      · rw [hji, hji', h2.sep i i' x y b hi hi' hxb hyb]
      · obtain ⟨h3, h4⟩ := hold k y b hk hns' hyb
        rcases (h2.out i x b hi hxb).1 with h5 | h5
        · exact absurd h5 h4
        · have : w.heap.size ≤ b := h5
          omega
    · rcases putB_get hl hy with ⟨i', hji', hi'⟩ | ⟨hk, hns'⟩
      · obtain ⟨h3, h4⟩ := hold j x b hj hns hxb
        rcases (h2.out i' y b hi' hyb).1 with h5 | h5
        · exact absurd h5 h4
        · have : w.heap.size ≤ b := h5
          omega
      · exact h.sep j k x y b hj hk hxb hyb
  · rcases putB_get hl hx with ⟨i, hji, hi⟩ | ⟨hj, hns⟩
    · obtain ⟨h3, h4⟩ := h2.out i x b hi hxb
      refine ⟨?_, h4⟩
      rcases h3 with h5 | h5
      · obtain ⟨k, y, _, hy, hyb⟩ := hX b h5
        exact (h.out k y b hy hyb).1
      · exact .inr (Nat.le_trans h.frm.size h5)
    · obtain ⟨h3, h4⟩ := h.out j x b hj hxb
      refine ⟨h3, fun p hp' => ?_⟩
      have hlt := hold j x b hj hns hxb
      cases hc : M' p with
      | none => rfl
      | some v =>
        rcases hM.2 p v hc with h5 | h5
        · rw [h4 p hp'] at h5; cases h5
        · rcases h5 with h6 | h6
          · exact absurd (hp' ▸ h6) hlt.2
          · have h7 : w.heap.size ≤ p.block := h6
            omega
def Re (a b : AV) : Prop := ∀ M u, RA M a u → RA M b u
def Res (asq bs : List AV) : Prop := ∀ M us, RAs M asq us → RAs M bs us
theorem re_refl {a : AV} : Re a a := fun _ _ h => h
theorem re_own {i j : Nat} {v : Value} : Re (.own i v) (.own j v) := fun M u h => by simp only [RA] at h ⊢; exact h
theorem re_ptr {i j b off : Nat} : Re (.ptr i b off) (.ptr j b off) := fun M u h => by simp only [RA] at h ⊢; exact h
theorem re_cls {a : AV} {t : T} (hz : Rzs [] [a] [t]) : Re a (.c t) := fun M u h => by
  have h1 : RAs M [a] [u] := by simp only [RAs]; exact ⟨u, [], rfl, h, rfl⟩
  have h2 := cls_sound _ _ _ hz h1
  simp only [RTs] at h2
  obtain ⟨x, r, e, h3, _⟩ := h2
  injection e with e _
  subst e
  simpa only [RA] using h3
theorem res_nil : Res [] [] := fun _ _ h => h
theorem res_cons {a b : AV} {asq bs : List AV} (h : Re a b) (h' : Res asq bs) : Res (a :: asq) (b :: bs) := fun M us hu => by
  simp only [RAs] at hu ⊢
  obtain ⟨x, r, e, h1, h2⟩ := hu
  exact ⟨x, r, e, h M x h1, h' M r h2⟩
section
variable {P : Program} {F : Frm} {d : Option Tmp} {ty : TypeId} {pos : String} {aft : Array Edge} {g : Option (Nat × Bool)} {ρ : Operand → AV} {hp : List Blk} {K : AV → List Blk → Prop}
theorem lo_callG {f : FuncId} {y : Operand} {xs : List Operand} {ats : Array TypeId} {asq cap : List AV} {hs : List Blk} {R : AV → List Blk → Prop} (sel : List Nat) (hc : AG P f asq hs R) (hy : ∀ M u, RA M (ρ y) u → ∃ cs : List Value, u = .func (.func f) #[] cs.toArray ∧ RAs M cap cs) (hx : Res (xs.map ρ ++ cap) asq) (hsl : selB hp sel = some hs) (hf : freshB sel = true)
    (h : ∀ r hs2, R r hs2 → ∃ r', Re r r' ∧ sel.length ≤ hs2.length ∧ K r' (putB hp sel hs2)) : LO P F ⟨d, .call { callee := .value y, args := xs.toArray, argTypes := ats }, ty, pos, aft, g⟩ ρ hp K := by
  refine ⟨fun M e w he hh => ?_⟩
  obtain ⟨hE, hcall⟩ := hc
  have h1 := he y (by simp [Op.operands, Call.operands])
  obtain ⟨cs, hu, hcs⟩ := hy M _ h1
  rw [run_call hE hu]
  have hav := (ev_all xs (fun x hx => he x (by simp [Op.operands, Call.operands, hx]))).app hcs
  refine (hcall (subF M hs w) M w _ (heap_sel hh hsl hf) (hx M _ hav)).mono ?_
  rintro e' w' ⟨v, r, hs2, M', rfl, hR, hM, hh2, hr⟩
  obtain ⟨r', hre, hl, hK⟩ := h r hs2 hR
  exact ⟨v, rfl, M', r', _, hK, hM.to (sub_may hh hsl), heap_put hh hsl hl hh2, hre M' v hr⟩
end
end Go.Proofs.Ythgackidonocpaa
