/-
  Texts of this proof, part 4: Ab12 Ab13 Ab14 Ab15 Ab16 Ab18.
-/
import Derived.Test.YtgjfiedepfjdcaaQLayoutLays3
import Derived.Laws.IdiomRangeMap
import Derived.Laws.Strings2
import Derived.MapKept
import Derived.WideKeyEntry
namespace Go.Proofs.Ytgjfiedepfjdcaa
open Go.RowKit
/-- what a slot holds, laid open -/
def fc : AV → Option AV
  | .c t => some (.c t)
  | .agg cs => some (.agg cs)
  | .tup cs => some (.tup cs)
  | .fn f cap => some (.fn f cap)
  | .ptr i b off => some (.ptr i b off)
  | .own i v => some (.own i v)
  | .eptr i v k => some (.eptr i v k)
  | .junk => none
theorem fc_eq : ∀ {v u : AV}, fc v = some u → v = u
  | .c _, _, h => by injection h
  | .agg _, _, h => by injection h
  | .tup _, _, h => by injection h
  | .fn _ _, _, h => by injection h
  | .ptr _ _ _, _, h => by injection h
  | .own _ _, _, h => by injection h
  | .eptr _ _ _, _, h => by injection h
  | .junk, _, h => by cases h
section
variable {P : Program} {F : Frm} {L : Tab} {ops : Array Oper} {K : AS → Prop} {τ : Nat → AV} {hp : List Blk} {N : Nat} {rest : List Oper} {op : Op} {ty : TypeId} {pos : String} {aft : Array Edge} {g : Nat} {b c : Bool} {d t : Tmp} {σ : AS}
theorem zNil (h : K σ) : AL P F ops K [] σ := al_nil h
theorem zOp (h : LO P F ⟨some t, op, ty, pos, aft, none⟩ (evT τ) hp fun v hp' => AL P F ops K rest ⟨upd N t v τ, hp', N⟩) : AL P F ops K (⟨some t, op, ty, pos, aft, none⟩ :: rest) ⟨τ, hp, N⟩ := x_op h
theorem zOpn (h : LO P F ⟨none, op, ty, pos, aft, none⟩ (evT τ) hp fun _ hp' => AL P F ops K rest ⟨τ, hp', N⟩) : AL P F ops K (⟨none, op, ty, pos, aft, none⟩ :: rest) ⟨τ, hp, N⟩ := x_opn h
theorem zYes (h : LO P F ⟨some t, op, ty, pos, aft, some (g, b)⟩ (evT τ) hp fun v hp' => AL P F ops K rest ⟨upd N t v τ, hp', N⟩) (hd : (ops[g]?).bind (·.dst) = some d := by exact rfl) (hv : τ d = .c (.lit (.bool c)) := by exact rfl) (hc : c = b := by first | exact rfl | assumption | exact neg_t (by assumption) | exact neg_f (by assumption)) :
    AL P F ops K (⟨some t, op, ty, pos, aft, some (g, b)⟩ :: rest) ⟨τ, hp, N⟩ := x_yes hd hv hc h
theorem zYesn (h : LO P F ⟨none, op, ty, pos, aft, some (g, b)⟩ (evT τ) hp fun _ hp' => AL P F ops K rest ⟨τ, hp', N⟩) (hd : (ops[g]?).bind (·.dst) = some d := by exact rfl) (hv : τ d = .c (.lit (.bool c)) := by exact rfl) (hc : c = b := by first | exact rfl | assumption | exact neg_t (by assumption) | exact neg_f (by assumption)) :
    AL P F ops K (⟨none, op, ty, pos, aft, some (g, b)⟩ :: rest) ⟨τ, hp, N⟩ := x_yesn hd hv hc h
theorem zNo (h : AL P F ops K rest ⟨upd N t (.c (.lit undef)) τ, hp, N⟩) (hd : (ops[g]?).bind (·.dst) = some d := by exact rfl) (hv : τ d = .c (.lit (.bool c)) := by exact rfl) (hc : c = !b := by first | exact rfl | assumption | exact neg_t (by assumption) | exact neg_f (by assumption)) :
    AL P F ops K (⟨some t, op, ty, pos, aft, some (g, b)⟩ :: rest) ⟨τ, hp, N⟩ := x_no hd hv hc h
theorem zNon (h : AL P F ops K rest ⟨τ, hp, N⟩) (hd : (ops[g]?).bind (·.dst) = some d := by exact rfl) (hv : τ d = .c (.lit (.bool c)) := by exact rfl) (hc : c = !b := by first | exact rfl | assumption | exact neg_t (by assumption) | exact neg_f (by assumption)) :
    AL P F ops K (⟨none, op, ty, pos, aft, some (g, b)⟩ :: rest) ⟨τ, hp, N⟩ := x_non hd hv hc h
theorem zUn (h : AL P F ops K rest ⟨upd N t (.c (.lit undef)) τ, hp, N⟩) (hd : (ops[g]?).bind (·.dst) = some d := by exact rfl) (hv : τ d = .c (.lit undef) := by exact rfl) : AL P F ops K (⟨some t, op, ty, pos, aft, some (g, b)⟩ :: rest) ⟨τ, hp, N⟩ := x_un hd hv h
theorem zUnn (h : AL P F ops K rest ⟨τ, hp, N⟩) (hd : (ops[g]?).bind (·.dst) = some d := by exact rfl) (hv : τ d = .c (.lit undef) := by exact rfl) : AL P F ops K (⟨none, op, ty, pos, aft, some (g, b)⟩ :: rest) ⟨τ, hp, N⟩ := x_unn hd hv h
end
section
variable {P : Program} {F : Frm} {L : Tab} {τ τ' : Nat → AV} {hp hp' : List Blk} {N : Nat} {Q : Exit → AS → Prop}
theorem zT {c : Operand} {x y : Code} {t : Bool} (h : AC P F x Q ⟨τ, hp, N⟩) (hc : evT τ c = .c (.lit (.bool t)) := by exact rfl) (ht : t = true := by first | exact rfl | assumption | exact neg_t (by assumption)) : AC P F (.cond c x y) Q ⟨τ, hp, N⟩ := x_t hc ht h
theorem zF {c : Operand} {x y : Code} {t : Bool} (h : AC P F y Q ⟨τ, hp, N⟩) (hc : evT τ c = .c (.lit (.bool t)) := by exact rfl) (ht : t = false := by first | exact rfl | assumption | exact neg_f (by assumption)) : AC P F (.cond c x y) Q ⟨τ, hp, N⟩ := x_f hc ht h
end
section
variable {P : Program} {F : Frm} {L : Tab} {d : Option Tmp} {ty : TypeId} {pos : String} {aft : Array Edge} {g : Option (Nat × Bool)} {ρ : Operand → AV} {hp : List Blk} {K : AV → List Blk → Prop}
theorem zkL {t : TypeId} {x : Operand} (h : LO P F ⟨d, .load t x, ty, pos, aft, g⟩ ρ hp K) : LO P F ⟨d, .load t x, ty, pos, aft, g⟩ ρ hp K := h
theorem zkF {t : TypeId} {x : Operand} {k : Nat} (h : LO P F ⟨d, .fieldAddr t x k, ty, pos, aft, g⟩ ρ hp K) : LO P F ⟨d, .fieldAddr t x k, ty, pos, aft, g⟩ ρ hp K := h
theorem zkB {o : BinOp} {t t' : TypeId} {x y : Operand} (h : LO P F ⟨d, .binOp o t x y t', ty, pos, aft, g⟩ ρ hp K) : LO P F ⟨d, .binOp o t x y t', ty, pos, aft, g⟩ ρ hp K := h
theorem zkI {b : Builtin} {xs : Array Operand} {ts : Array TypeId} (h : LO P F ⟨d, .call { callee := .builtin b, args := xs, argTypes := ts }, ty, pos, aft, g⟩ ρ hp K) : LO P F ⟨d, .call { callee := .builtin b, args := xs, argTypes := ts }, ty, pos, aft, g⟩ ρ hp K := h
theorem zM {x : Operand} {v : AV} (h : K v hp) (hv : fc (ρ x) = some v := by exact rfl) : LO P F ⟨d, .move x, ty, pos, aft, g⟩ ρ hp K := lo_move (fc_eq hv) h
theorem zA {x : Operand} {v : AV} (h : K v hp) (hv : fc (ρ x) = some v := by exact rfl) : LO P F ⟨d, .assign x, ty, pos, aft, g⟩ ρ hp K := lo_assign (fc_eq hv) h
theorem zPt {c x y : Operand} {v : AV} {b : Bool} (h : K v hp) (hc : ρ c = .c (.lit (.bool b)) := by exact rfl) (hb : b = true := by first | exact rfl | assumption | exact neg_t (by assumption)) (hv : fc (ρ x) = some v := by exact rfl) : LO P F ⟨d, .pick c x y, ty, pos, aft, g⟩ ρ hp K := v_pick_t hc hb (fc_eq hv) h
theorem zPf {c x y : Operand} {v : AV} {b : Bool} (h : K v hp) (hc : ρ c = .c (.lit (.bool b)) := by exact rfl) (hb : b = false := by first | exact rfl | assumption | exact neg_f (by assumption)) (hv : fc (ρ y) = some v := by exact rfl) : LO P F ⟨d, .pick c x y, ty, pos, aft, g⟩ ρ hp K := v_pick_f hc hb (fc_eq hv) h
theorem zE {x : Operand} {ts : List T} {k : Nat} {t : T} (h : K (.c t) hp) (hx : ρ x = .c (.tup ts) := by exact rfl) (hk : ts[k]? = some t := by exact rfl) : LO P F ⟨d, .extract x k, ty, pos, aft, g⟩ ρ hp K := lo_extract hx hk h
theorem zEA {x : Operand} {ts : List AV} {k : Nat} {t : AV} (h : K t hp) (hx : ρ x = .tup ts := by exact rfl) (hk : ts[k]? = some t := by exact rfl) : LO P F ⟨d, .extract x k, ty, pos, aft, g⟩ ρ hp K := lo_extractA hx hk h
theorem zAl {t : TypeId} {ti : TI} {cs : List AV} {n : Nat} {hp' : Nat → List Blk} (h : ∀ b, K (.ptr n b 0) (hp' b)) (hL : TabOk P L := by exact tok) (ht : L.look t = some ti := by exact rfl) (hz : evl (ti.zero.map fun v => AV.c (.lit v)) = some cs := by exact rfl) (hn : lenU hp = some n := by exact rfl) (hf : ∀ b, evl (hp ++ [.box b t cs]) = some (hp' b) := by exact fun _ => rfl) : LO P F ⟨d, .alloc t, ty, pos, aft, g⟩ ρ hp K := v_alloc hL ht hz hn hf h
theorem zBx {t : TypeId} {x : Operand} {v : AV} {cs : List AV} {n : Nat} {hp' : Nat → List Blk} (h : ∀ b, K (.ptr n b 0) (hp' b)) (hv : fc (ρ x) = some v := by exact rfl) (hc : evl (cellsA v) = some cs := by exact rfl) (h1 : allOne cs = true := by first | exact rfl | assumption) (hn : lenU hp = some n := by exact rfl) (hf : ∀ b, evl (hp ++ [.box b t cs]) = some (hp' b) := by exact fun _ => rfl) : LO P F ⟨d, .box t x, ty, pos, aft, g⟩ ρ hp K := v_box (fc_eq hv) hc h1 hn hf h
theorem zS {t : TypeId} {ti : TI} {x y : Operand} {i b off : Nat} {tb : TypeId} {cs vs cs' : List AV} {v : AV} {hp' : List Blk} (h : K (.c (.lit undef)) hp') (hL : TabOk P L := by exact tok) (hx : ρ x = .ptr i b off := by exact rfl) (hi : hp[i]? = some (.box b tb cs) := by exact rfl) (hv : fc (ρ y) = some v := by exact rfl) (ht : L.look t = some ti := by exact rfl) (hc : evl (cellsA v) = some vs := by exact rfl) (h1 : allOne vs = true := by first | exact rfl | assumption) (hl : lenU vs = some ti.size := by exact rfl) (hb : Nat.ble (off + ti.size) cs.length = true := by exact rfl) (hs : evl (spl cs off vs) = some cs' := by exact rfl) (hf : evl (hp.set i (.box b tb cs')) = some hp' := by exact rfl) :
    LO P F ⟨d, .store t x y, ty, pos, aft, g⟩ ρ hp K := v_store hL hx hi (fc_eq hv) ht hc h1 hl hb hs hf h
theorem zL1 {t : TypeId} {ti : TI} {x : Operand} {i b off : Nat} {tb : TypeId} {cs : List AV} {v : AV} (h : K v hp) (hL : TabOk P L := by exact tok) (hx : ρ x = .ptr i b off := by exact rfl) (hi : hp[i]? = some (.box b tb cs) := by exact rfl) (ht : L.look t = some ti := by exact rfl) (ha : ti.agg = false := by exact rfl) (hv : cs[off]? = some v := by exact rfl) : LO P F ⟨d, .load t x, ty, pos, aft, g⟩ ρ hp K := lo_load_box1 hL hx hi ht ha hv h
theorem zL2 {t : TypeId} {ti : TI} {x : Operand} {i b off : Nat} {tb : TypeId} {cs l : List AV} (h : K (.agg l) hp) (hL : TabOk P L := by exact tok) (hx : ρ x = .ptr i b off := by exact rfl) (hi : hp[i]? = some (.box b tb cs) := by exact rfl) (ht : L.look t = some ti := by exact rfl) (ha : ti.agg = true := by exact rfl) (hl : Nat.ble (off + ti.size) cs.length = true := by exact rfl) (he : evl ((cs.drop off).take ti.size) = some l := by exact rfl) : LO P F ⟨d, .load t x, ty, pos, aft, g⟩ ρ hp K := v_load_box hL hx hi ht ha hl he h
theorem zL3 {t : TypeId} {ti : TI} {x : Operand} {off : Nat} {cs : List T} {v : T} (h : K (.c v) hp) (hL : TabOk P L := by exact tok) (hx : ρ x = .c (.pin cs off) := by exact rfl) (ht : L.look t = some ti := by exact rfl) (ha : ti.agg = false := by exact rfl) (hv : cs[off]? = some v := by exact rfl) : LO P F ⟨d, .load t x, ty, pos, aft, g⟩ ρ hp K := lo_load_pin1 hL hx ht ha hv h
/-- the element of a row that came in; what it is must be told -/
theorem zEl {t : TypeId} {ti : TI} {x : Operand} {off : Nat} {cs ts : List T} (hts : (cs.drop off).take ti.size = ts) (hl : ts.length = ti.size) (h : K (.c (.agg ts)) hp) (hL : TabOk P L := by exact tok) (hx : ρ x = .c (.pin cs off) := by exact rfl) (ht : L.look t = some ti := by exact rfl) (ha : ti.agg = true := by exact rfl) : LO P F ⟨d, .load t x, ty, pos, aft, g⟩ ρ hp K := lo_load_pin hL hx ht ha hts hl h
theorem zLp {t : TypeId} {ti : TI} {x : Operand} {off : Nat} {cs ts : List T} (h : K (.c (.agg ts)) hp) (hL : TabOk P L := by exact tok) (hx : ρ x = .c (.pin cs off) := by exact rfl) (ht : L.look t = some ti := by exact rfl) (ha : ti.agg = true := by exact rfl) (hts : evl ((cs.drop off).take ti.size) = some ts := by exact rfl) (hl : lenU ts = some ti.size := by exact rfl) : LO P F ⟨d, .load t x, ty, pos, aft, g⟩ ρ hp K := lo_load_pin hL hx ht ha (evl_eq hts).symm (lenU_eq hl).symm h
theorem zEl1 {t : TypeId} {ti : TI} {x : Operand} {off : Nat} {cs : List T} {v : T} (hv : cs[off]? = some v) (h : K (.c v) hp) (hL : TabOk P L := by exact tok) (hx : ρ x = .c (.pin cs off) := by exact rfl) (ht : L.look t = some ti := by exact rfl) (ha : ti.agg = false := by exact rfl) : LO P F ⟨d, .load t x, ty, pos, aft, g⟩ ρ hp K := lo_load_pin1 hL hx ht ha hv h
theorem zIx {t el : TypeId} {ti te : TI} {x y : Operand} {n sz : Nat} {cs : List T} {k : IntKind} {z : Int} (j : Nat) (hj : j < n) (h : K (.c (.pin cs (j * sz))) hp) (hL : TabOk P L := by exact tok) (hx : ρ x = .c (.row n sz cs) := by exact rfl) (hy : ρ y = .c (.lit (.int k z)) := by exact rfl) (hz : z = (j : Int) := by exact rfl) (ht : L.look t = some ti := by exact rfl) (hd : ti.d = .slice el := by exact rfl) (hte : L.look el = some te := by exact rfl) (hsz : te.size = sz := by exact rfl) : LO P F ⟨d, .indexAddr t x y, ty, pos, aft, g⟩ ρ hp K := lo_idx hL j hx hy hz hj ht hd hte hsz h
theorem zIxo {t el : TypeId} {ti te : TI} {x y : Operand} {i n sz : Nat} {v : Value} {e' : TypeId} {cs : List T} {k : IntKind} {z : Int} (j : Nat) (hj : j < n) (h : K (.eptr i v (j * sz)) hp) (hL : TabOk P L := by exact tok) (hx : ρ x = .own i v := by exact rfl) (hi : hp[i]? = some (.row v e' sz n cs) := by exact rfl) (hy : ρ y = .c (.lit (.int k z)) := by exact rfl) (hz : z = (j : Int) := by exact rfl) (ht : L.look t = some ti := by exact rfl) (hd : ti.d = .slice el := by exact rfl) (hte : L.look el = some te := by exact rfl) (hsz : te.size = sz := by exact rfl) : LO P F ⟨d, .indexAddr t x y, ty, pos, aft, g⟩ ρ hp K := lo_idx_own hL j hx hi hy hz hj ht hd hte hsz h
theorem zElo {t : TypeId} {ti : TI} {x : Operand} {i off n sz : Nat} {v : Value} {e' : TypeId} {cs ts : List T} (hts : (cs.drop off).take ti.size = ts) (hl : ts.length = ti.size) (h : K (.c (.agg ts)) hp) (hL : TabOk P L := by exact tok) (hx : ρ x = .eptr i v off := by exact rfl) (hi : hp[i]? = some (.row v e' sz n cs) := by exact rfl) (ht : L.look t = some ti := by exact rfl) (ha : ti.agg = true := by exact rfl) : LO P F ⟨d, .load t x, ty, pos, aft, g⟩ ρ hp K := lo_load_e hL hx hi ht ha hts hl h
theorem zElo1 {t : TypeId} {ti : TI} {x : Operand} {i off n sz : Nat} {v : Value} {e' : TypeId} {cs : List T} {u : T} (hv : cs[off]? = some u) (h : K (.c u) hp) (hL : TabOk P L := by exact tok) (hx : ρ x = .eptr i v off := by exact rfl) (hi : hp[i]? = some (.row v e' sz n cs) := by exact rfl) (ht : L.look t = some ti := by exact rfl) (ha : ti.agg = false := by exact rfl) : LO P F ⟨d, .load t x, ty, pos, aft, g⟩ ρ hp K := lo_load_e1 hL hx hi ht ha hv h
theorem zF1 {s : TypeId} {ti : TI} {fs : List (Nat × Nat)} {k o sz : Nat} {x : Operand} {i b off : Nat} (h : K (.ptr i b (off + o)) hp) (hL : TabOk P L := by exact tok) (hx : ρ x = .ptr i b off := by exact rfl) (ht : L.look s = some ti := by exact rfl) (hd : ti.d = .struct fs := by exact rfl) (hk : fs[k]? = some (o, sz) := by exact rfl) (h0 : Nat.beq sz 0 = false := by exact rfl) : LO P F ⟨d, .fieldAddr s x k, ty, pos, aft, g⟩ ρ hp K := lo_fld hL hx ht hd hk h0 h
theorem zF2 {s : TypeId} {ti : TI} {fs : List (Nat × Nat)} {k o sz : Nat} {x : Operand} {cs : List T} {off : Nat} (h : K (.c (.pin cs (off + o))) hp) (hL : TabOk P L := by exact tok) (hx : ρ x = .c (.pin cs off) := by exact rfl) (ht : L.look s = some ti := by exact rfl) (hd : ti.d = .struct fs := by exact rfl) (hk : fs[k]? = some (o, sz) := by exact rfl) (h0 : Nat.beq sz 0 = false := by exact rfl) : LO P F ⟨d, .fieldAddr s x k, ty, pos, aft, g⟩ ρ hp K := lo_fld_pin hL hx ht hd hk h0 h
theorem zF3 {s : TypeId} {ti : TI} {fs : List (Nat × Nat)} {k o sz : Nat} {x : Operand} {i : Nat} {v : Value} {off : Nat} (h : K (.eptr i v (off + o)) hp) (hL : TabOk P L := by exact tok) (hx : ρ x = .eptr i v off := by exact rfl) (ht : L.look s = some ti := by exact rfl) (hd : ti.d = .struct fs := by exact rfl) (hk : fs[k]? = some (o, sz) := by exact rfl) (h0 : Nat.beq sz 0 = false := by exact rfl) : LO P F ⟨d, .fieldAddr s x k, ty, pos, aft, g⟩ ρ hp K := lo_fld_e hL hx ht hd hk h0 h
theorem zN1 {t el : TypeId} {ti : TI} {x : Operand} {n sz : Nat} {cs : List T} (h : n ≤ 9223372036854775807 → K (.c (.lit (.int .i64 n))) hp) (hL : TabOk P L := by exact tok) (hx : ρ x = .c (.row n sz cs) := by exact rfl) (ht : L.look t = some ti := by exact rfl) (hd : ti.d = .slice el := by exact rfl) : LO P F ⟨d, .call { callee := .builtin .len, args := #[x], argTypes := #[t] }, ty, pos, aft, g⟩ ρ hp K := lo_len hL hx ht hd h
theorem zN2 {t el : TypeId} {ti : TI} {x : Operand} {i n sz : Nat} {v : Value} {e' : TypeId} {cs : List T} (h : n ≤ 9223372036854775807 → K (.c (.lit (.int .i64 n))) hp) (hL : TabOk P L := by exact tok) (hx : ρ x = .own i v := by exact rfl) (hi : hp[i]? = some (.row v e' sz n cs) := by exact rfl) (ht : L.look t = some ti := by exact rfl) (hd : ti.d = .slice el := by exact rfl) : LO P F ⟨d, .call { callee := .builtin .len, args := #[x], argTypes := #[t] }, ty, pos, aft, g⟩ ρ hp K := lo_len_own hL hx hi ht hd h
theorem zN3 {t : TypeId} {ti : TI} {x : Operand} {s : ByteArray} (h : K (.c (.lit (.int .i64 s.size))) hp) (hL : TabOk P L := by exact tok) (hx : ρ x = .c (.lit (.string s)) := by exact rfl) (ht : L.look t = some ti := by exact rfl) (hd : ti.d = .string := by exact rfl) : LO P F ⟨d, .call { callee := .builtin .len, args := #[x], argTypes := #[t] }, ty, pos, aft, g⟩ ρ hp K := lo_len_str hL hx ht hd h
theorem zN4 {t el : TypeId} {ti : TI} {x : Operand} (h : K (.c (.lit (.int .i64 0))) hp) (hL : TabOk P L := by exact tok) (hx : ρ x = .c (.lit (.slice none 0 0)) := by exact rfl) (ht : L.look t = some ti := by exact rfl) (hd : ti.d = .slice el := by exact rfl) : LO P F ⟨d, .call { callee := .builtin .len, args := #[x], argTypes := #[t] }, ty, pos, aft, g⟩ ρ hp K := lo_len_nil hL hx ht hd h
theorem zAp {t el : TypeId} {ti te : TI} {x y : Operand} {i n m sz : Nat} {v : Value} {cs ts : List T} {hp' : Value → List Blk} (h : ∀ v', K (.own i v') (hp' v')) (hL : TabOk P L := by exact tok) (hx : ρ x = .own i v := by exact rfl) (hi : hp[i]? = some (.row v el sz n cs) := by exact rfl) (hy : ρ y = .c (.row m sz ts) := by exact rfl) (ht : L.look t = some ti := by exact rfl) (hd : ti.d = .slice el := by exact rfl) (hte : L.look el = some te := by exact rfl) (hsz : te.size = sz := by exact rfl) (hf : ∀ v', evl (hp.set i (.row v' el sz (n + m) (cs ++ ts))) = some (hp' v') := by exact fun _ => rfl)
    (h63 : n + m ≤ maxLen := by first | (simp only [maxLen]; omega) | (simp only [maxLen]; dsimp only at *; omega)) (hbytes : (n + m) * te.bytes ≤ 140737488355328 := by first | (simp only []; omega) | (dsimp only at *; omega)) : LO P F ⟨d, .call { callee := .builtin .append, args := #[x, y], argTypes := #[t, t] }, ty, pos, aft, g⟩ ρ hp K := v_app hL hx hi hy ht hd hte hsz hf h63 hbytes h
theorem zBd {t : TypeId} {ti : TI} {fs : List (Nat × Nat)} {parts : List (Nat × Operand)} {cs cs' : List AV} (h : K (.agg cs') hp) (hL : TabOk P L := by exact tok) (ht : L.look t = some ti := by exact rfl) (hd : ti.d = .struct fs := by exact rfl) (hf : fillA (fun i => fs[i]?) (ti.zero.map fun v => .c (.lit v)) (parts.map fun p => (p.1, ρ p.2)) = some cs := by exact rfl) (he : evl cs = some cs' := by exact rfl) : LO P F ⟨d, .build t parts.toArray, ty, pos, aft, g⟩ ρ hp K := v_build hL ht hd hf he h
theorem zBs {t el : TypeId} {ti te : TI} {n : Nat} {parts : List (Nat × Operand)} {cs cs' : List AV} {ts : List T} (h : K (.c (.row n te.size ts)) hp) (hL : TabOk P L := by exact tok) (ht : L.look t = some ti := by exact rfl) (hd : ti.d = .slice el := by exact rfl) (hte : L.look el = some te := by exact rfl) (h0 : Nat.ble 1 te.size = true := by exact rfl) (hn : Nat.ble (n * te.size) 16777216 = true := by exact rfl)
    (hf : fillA (fun i => some (i * te.size, te.size)) ((List.range (n * te.size)).map fun j => .c (.lit (te.zero.getD (j % te.size) undef))) (parts.map fun p => (p.1, ρ p.2)) = some cs := by exact rfl) (he : evl cs = some cs' := by exact rfl) (hz : Rzs [] cs' ts := by repeat (first | exact rzs_nil | apply rzs_cons | exact rz_c | exact rz_nil rfl | apply rz_agg | exact rz_own rfl | apply rz_fn | exact rz_ptr rfl | apply rz_tup)) : LO P F ⟨d, .buildSlice t n parts.toArray, ty, pos, aft, g⟩ ρ hp K := v_bslice hL ht hd hte h0 hn hf he hz h
theorem zFn {f : Fn} {cap : List Operand} {l : List AV} (h : K (.fn f l) hp) (he : evl (cap.map ρ) = some l := by exact rfl) : LO P F ⟨d, .makeFunc f #[] cap.toArray, ty, pos, aft, g⟩ ρ hp K := v_func he h
theorem zCall {f : FuncId} {y : Operand} {xs : List Operand} {ats : Array TypeId} {ts : List T} {R : T → Prop} {cap : List AV} (hc : AF P f ts R) (h : ∀ r, R r → K (.c r) hp) (hy : ρ y = .fn (.func f) cap := by exact rfl) (hx : Rzs [] (xs.map ρ ++ cap) ts := by repeat (first | exact rzs_nil | apply rzs_cons | exact rz_c | exact rz_nil rfl | apply rz_agg | exact rz_own rfl | apply rz_fn | exact rz_ptr rfl | apply rz_tup)) : LO P F ⟨d, .call { callee := .value y, args := xs.toArray, argTypes := ats }, ty, pos, aft, g⟩ ρ hp K := lo_call hc hy hx h
variable {t t' : TypeId} {x y : Operand} {k : IntKind} {a b : Int} {s s' : ByteArray}
theorem zInc {n : Nat} (h : K (.c (.lit (.int .i64 ((n + 1 : Nat) : Int)))) hp) (hx : ρ x = .c (.lit (.int .i64 n)) := by exact rfl) (hy : ρ y = .c (.lit (.int .i64 1)) := by exact rfl) (hb : n < 9223372036854775807 := by first | omega | (dsimp only at *; omega)) : LO P F ⟨d, .binOp .add t x y t', ty, pos, aft, g⟩ ρ hp K := lo_inc hx hy hb h
theorem zNot {c : Bool} (h : K (.c (.lit (.bool !c))) hp) (hx : ρ x = .c (.lit (.bool c)) := by exact rfl) : LO P F ⟨d, .unOp .not t x, ty, pos, aft, g⟩ ρ hp K := lo_not hx h
theorem zC1 (h : K (.c (.lit (.bool (decide (a < b))))) hp) (hx : ρ x = .c (.lit (.int k a)) := by exact rfl) (hy : ρ y = .c (.lit (.int k b)) := by exact rfl) : LO P F ⟨d, .binOp .lss t x y t', ty, pos, aft, g⟩ ρ hp K := lo_lss hx hy h
theorem zC2 (h : K (.c (.lit (.bool (decide (a ≤ b))))) hp) (hx : ρ x = .c (.lit (.int k a)) := by exact rfl) (hy : ρ y = .c (.lit (.int k b)) := by exact rfl) : LO P F ⟨d, .binOp .leq t x y t', ty, pos, aft, g⟩ ρ hp K := lo_leq hx hy h
theorem zC3 (h : K (.c (.lit (.bool (decide (b < a))))) hp) (hx : ρ x = .c (.lit (.int k a)) := by exact rfl) (hy : ρ y = .c (.lit (.int k b)) := by exact rfl) : LO P F ⟨d, .binOp .gtr t x y t', ty, pos, aft, g⟩ ρ hp K := lo_gtr hx hy h
theorem zC4 (h : K (.c (.lit (.bool (decide (b ≤ a))))) hp) (hx : ρ x = .c (.lit (.int k a)) := by exact rfl) (hy : ρ y = .c (.lit (.int k b)) := by exact rfl) : LO P F ⟨d, .binOp .geq t x y t', ty, pos, aft, g⟩ ρ hp K := lo_geq hx hy h
theorem zC5 (h : K (.c (.lit (.bool (decide (a = b))))) hp) (hx : ρ x = .c (.lit (.int k a)) := by exact rfl) (hy : ρ y = .c (.lit (.int k b)) := by exact rfl) : LO P F ⟨d, .binOp .eql t x y t', ty, pos, aft, g⟩ ρ hp K := lo_eql hx hy h
theorem zC6 (h : K (.c (.lit (.bool (!decide (a = b))))) hp) (hx : ρ x = .c (.lit (.int k a)) := by exact rfl) (hy : ρ y = .c (.lit (.int k b)) := by exact rfl) : LO P F ⟨d, .binOp .neq t x y t', ty, pos, aft, g⟩ ρ hp K := lo_neq hx hy h
theorem zS1 (h : K (.c (.lit (.bool (strLt s s')))) hp) (hx : ρ x = .c (.lit (.string s)) := by exact rfl) (hy : ρ y = .c (.lit (.string s')) := by exact rfl) : LO P F ⟨d, .binOp .lss t x y t', ty, pos, aft, g⟩ ρ hp K := lo_lts hx hy h
theorem zS2 (h : K (.c (.lit (.bool (strLt s s' || decide (s = s'))))) hp) (hx : ρ x = .c (.lit (.string s)) := by exact rfl) (hy : ρ y = .c (.lit (.string s')) := by exact rfl) : LO P F ⟨d, .binOp .leq t x y t', ty, pos, aft, g⟩ ρ hp K := lo_les hx hy h
theorem zS3 (h : K (.c (.lit (.bool (!(strLt s s' || decide (s = s')))))) hp) (hx : ρ x = .c (.lit (.string s)) := by exact rfl) (hy : ρ y = .c (.lit (.string s')) := by exact rfl) : LO P F ⟨d, .binOp .gtr t x y t', ty, pos, aft, g⟩ ρ hp K := lo_gts hx hy h
theorem zS4 (h : K (.c (.lit (.bool (!strLt s s')))) hp) (hx : ρ x = .c (.lit (.string s)) := by exact rfl) (hy : ρ y = .c (.lit (.string s')) := by exact rfl) : LO P F ⟨d, .binOp .geq t x y t', ty, pos, aft, g⟩ ρ hp K := lo_ges hx hy h
theorem zS5 (h : K (.c (.lit (.bool (decide (s = s'))))) hp) (hx : ρ x = .c (.lit (.string s)) := by exact rfl) (hy : ρ y = .c (.lit (.string s')) := by exact rfl) : LO P F ⟨d, .binOp .eql t x y t', ty, pos, aft, g⟩ ρ hp K := lo_eqs hx hy h
theorem zS6 (h : K (.c (.lit (.bool (!decide (s = s'))))) hp) (hx : ρ x = .c (.lit (.string s)) := by exact rfl) (hy : ρ y = .c (.lit (.string s')) := by exact rfl) : LO P F ⟨d, .binOp .neq t x y t', ty, pos, aft, g⟩ ρ hp K := lo_nes hx hy h
end
section
variable {L : Tab} {σ : AS} {res : List ResultVar} {R : T → Prop} {ts : List T}
theorem zR (hR : R (outT ts)) (h : Outs L σ res ts := by repeat (first | exact outs_nil | apply outs_cons | (apply out_tmp (v := .c _); (focus exact rfl)) | (apply out_tmp (v := .own _ _); (focus exact rfl)) | (apply out_tmp (v := .agg _); (focus exact rfl)) | (apply out_tmp (v := .ptr _ _ _); (focus exact rfl)) | (apply out_tmp (v := .fn _ _); (focus exact rfl)) | (apply out_agg; (focus exact rfl); (focus exact rfl); (focus exact rfl); (focus exact rfl); (focus exact rfl); (focus exact rfl)) | (apply out_one; (focus exact rfl); (focus exact rfl); (focus exact rfl); (focus exact rfl); (focus exact rfl)) | exact rzs_nil | apply rzs_cons | exact rz_c | exact rz_nil rfl | apply rz_agg | exact rz_own rfl | apply rz_fn | exact rz_ptr rfl | apply rz_tup)) : Fin L res R .ret σ := fin_r h hR
theorem zQ (hR : R (outT ts)) (h : Outs L σ res ts := by repeat (first | exact outs_nil | apply outs_cons | (apply out_tmp (v := .c _); (focus exact rfl)) | (apply out_tmp (v := .own _ _); (focus exact rfl)) | (apply out_tmp (v := .agg _); (focus exact rfl)) | (apply out_tmp (v := .ptr _ _ _); (focus exact rfl)) | (apply out_tmp (v := .fn _ _); (focus exact rfl)) | (apply out_agg; (focus exact rfl); (focus exact rfl); (focus exact rfl); (focus exact rfl); (focus exact rfl); (focus exact rfl)) | (apply out_one; (focus exact rfl); (focus exact rfl); (focus exact rfl); (focus exact rfl); (focus exact rfl)) | exact rzs_nil | apply rzs_cons | exact rz_c | exact rz_nil rfl | apply rz_agg | exact rz_own rfl | apply rz_fn | exact rz_ptr rfl | apply rz_tup)) : Fin L res R .normal σ := fin_n h hR
end
end Go.Proofs.Ytgjfiedepfjdcaa
namespace Go.Proofs.Ytgjfiedepfjdcaa
open Go.RowKit
section
variable {P : Program} {F : Frm} {L : Tab} {d : Option Tmp} {ty : TypeId} {pos : String} {aft : Array Edge} {g : Option (Nat × Bool)} {ρ : Operand → AV} {hp : List Blk} {K : AV → List Blk → Prop}
theorem range_rep {α : Type} (z : List α) (d : α) (n : Nat) : (List.range (n * z.length)).map (fun j => z.getD (j % z.length) d) = (List.replicate n z).flatten := by
  induction n with
  | zero => simp
  | succ n ih =>
    rw [Nat.succ_mul, List.range_add, List.map_append, ih, List.replicate_succ', List.flatten_append]
    congr 1
    simp only [List.flatten_cons, List.flatten_nil, List.append_nil, List.map_map]
    apply List.ext_getElem
    · simp
    · intro k h1 h2
      simp [Nat.mod_eq_of_lt h2, List.getElem?_eq_getElem h2]
theorem RTs.rep {M : Mm} {z : List T} {xs : List Value} (h : RTs M z xs) : ∀ n, RTs M (List.replicate n z).flatten (List.replicate n xs).flatten
  | 0 => by simp [RTs]
  | n + 1 => by
    simp only [List.replicate_succ, List.flatten_cons]
    exact h.app (RTs.rep h n)
theorem lo_make (hL : TabOk P L) {t el : TypeId} {ti te : TI} {x y : Operand} (n : Nat) {k : IntKind} {a a' : Int} (hx : ρ x = .c (.lit (.int k a))) (hy : ρ y = .c (.lit (.int k a'))) (hz : a = (n : Int)) (hz' : a' = (n : Int)) (ht : L.look t = some ti) (hd : ti.d = .slice el) (hte : L.look el = some te) (h0 : Nat.ble 1 te.size = true) (hn : n * te.bytes ≤ 140737488355328) (hn2 : n ≤ 140737488355328) {z : List T} (hzz : Rzs [] (te.zero.map fun v => .c (.lit v)) z)
    (h : ∀ v, K (.own hp.length v) (hp ++ [.row v el te.size n (List.replicate n z).flatten])) : LO P F ⟨d, .makeSlice t x y, ty, pos, aft, g⟩ ρ hp K := by
  subst hz; subst hz'
  refine ⟨fun M e w he hh => ?_⟩
  have h1 := he x (by simp [Op.operands])
  rw [hx] at h1
  simp only [RA, RT] at h1
  have h2 := he y (by simp [Op.operands])
  rw [hy] at h2
  simp only [RA, RT] at h2
  obtain ⟨zv, hzv, hzc, hzs, hone⟩ := hL.zero hte
  obtain ⟨inf, _, hi1, hi2, hi3, _⟩ := hL.info hte
  have h0' := Nat.le_of_ble_eq_true h0
  have hzl : te.zero.length = te.size := by rw [← hzc, ← hzs]; simp
  have hw : IntKind.i64.wrap (n : Int) = n := IntWalk.i64_in _ (by omega)
  have hnm : n ≤ maxLen := by unfold maxLen; omega
  have hcells : (Array.range (n * te.size)).map (fun x => zv.cells[x % zv.cells.size]!) = ((List.range (n * te.size)).map fun j => te.zero.getD (j % te.size) undef).toArray := by
    rw [repl_cells zv.cells n te.size hzs h0', hzc]
  have hbig : ¬ ((te.bytes : Int) * (n : Int) > 2 ^ 48) := by
    have : (te.bytes : Int) * (n : Int) = ((n * te.bytes : Nat) : Int) := by rw [Nat.mul_comm]; simp
    rw [this]; omega
  have hrun : (execOp e ⟨d, .makeSlice t x y, ty, pos, aft, g⟩).run P w = .ok (.value (.slice (some ⟨w.heap.size, 0, none⟩) n n)) (w.alloc (.cells ((List.range (n * te.size)).map fun j => te.zero.getD (j % te.size) undef).toArray el)) := by
    simp only [execOp, Instr.makeSlice, Sem.run_bind, run_underlying (hL.slice ht hd), Result.andThen_ok, h1, h2, asInt, asIntOf, Sem.run_pure, typeInfo, run_program, hi1, hi3, hw]
    have hc : (decide ((n : Int) < 0) || decide ((te.bytes : Int) * (n : Int) > 2 ^ 48) || decide ((n : Int) < 0) || decide ((n : Int) > (n : Int))) = false := by simp; omega
    have hc' : ¬ ((decide ((n : Int) < 0) || decide ((te.bytes : Int) * (n : Int) > 2 ^ 48) || decide ((n : Int) < 0) || decide ((n : Int) > (n : Int))) = true) := by rw [hc]; simp
    simp only [if_neg hc', Sem.run_bind, Result.andThen_ok, run_askRoom, hL.sizeOf hte, Int.toNat_natCast]
    by_cases hnz : n * te.size = 0
    · have hr0 : Array.range 0 = #[] := rfl
      simp [hnz, hr0, newRow]
    · simp only [hnz, if_false, Sem.run_bind, hzv, Sem.run_pure, Result.andThen_ok, hcells]
      simp [newRow]
  rw [hrun]
  have hl : ((List.range (n * te.size)).map fun j => te.zero.getD (j % te.size) undef).length = n * te.size := by simp
  have hone' : OneAll ((List.range (n * te.size)).map fun j => te.zero.getD (j % te.size) undef) := by
    intro x hx
    simp only [List.mem_map, List.mem_range] at hx
    obtain ⟨j, _, rfl⟩ := hx
    have : j % te.size < te.zero.length := by rw [hzl]; exact Nat.mod_lt _ h0'
    rw [List.getD_eq_getElem?_getD, List.getElem?_eq_getElem this]
    exact hone _ (List.getElem_mem _)
  have hrt : RTs M (List.replicate n z).flatten ((List.range (n * te.size)).map fun j => te.zero.getD (j % te.size) undef) := by
    have h3 : RTs M z te.zero := cls_sound _ _ _ hzz (RAs.lits _)
    have h4 := range_rep te.zero undef n
    rw [hzl] at h4
    rw [h4]
    exact h3.rep n
  generalize ((List.range (n * te.size)).map fun j => te.zero.getD (j % te.size) undef) = ys at *
  have hown : (w.alloc (.cells ys.toArray el)).ownsRow 0 el te.size (.slice (some ⟨w.heap.size, 0, none⟩) n n) n ys :=
    ⟨hl, .inr ⟨w.heap.size, n, ys.toArray, rfl, Nat.zero_le _, heap_alloc_new w _, Nat.le_refl _, hnm, by simpa using hl, by simp [← hl]⟩⟩
  refine ⟨M, _, _, h (.slice (some ⟨w.heap.size, 0, none⟩) n n), Ext.refl _ _, ?_, by simp only [RA]; exact ⟨trivial, rfl⟩⟩
  refine push_row (w' := w.alloc (.cells ys.toArray el)) (x := .row (.slice (some ⟨w.heap.size, 0, none⟩) n n) el te.size n (List.replicate n z).flatten) hh rfl rfl rfl (by simp) (fun b hb => Below.heap_alloc _ _ _ hb) (Ext.refl _ _) (fun p v h1 h2 => by rw [h2] at h1; cases h1) ⟨ys, ownsO_of hown, hrt, hone', h0'⟩ (fun b hb => ?_)
  obtain rfl : w.heap.size = b := by simpa [Blk.blk, Value.ownBlock] using hb
  exact ⟨Nat.le_refl _, fun p hp => mem_fresh hh.mem (by omega)⟩
theorem RTs.set {M : Mm} : ∀ {ts : List T} {xs : List Value} (k : Nat) {t : T} {x : Value}, RTs M ts xs → RT M t x → RTs M (ts.set k t) (xs.set k x)
  | [], _, _, _, _, h, _ => by simp only [RTs] at h; subst h; simp [RTs]
  | a :: ts, _, 0, _, _, h, ht => by
    simp only [RTs] at h
    obtain ⟨x, r, rfl, h1, h2⟩ := h
    simp only [List.set_cons_zero, RTs]
    exact ⟨_, _, rfl, ht, h2⟩
  | a :: ts, _, k + 1, _, _, h, ht => by
    simp only [RTs] at h
    obtain ⟨x, r, rfl, h1, h2⟩ := h
    simp only [List.set_cons_succ, RTs]
    exact ⟨_, _, rfl, h1, RTs.set k h2 ht⟩
theorem RTs.spl {M : Mm} : ∀ {vs cs : List T} {us xs : List Value} {k : Nat}, RTs M cs xs → RTs M vs us → RTs M (spl cs k vs) (Go.Proofs.Ytgjfiedepfjdcaa.spl xs k us)
  | [], _, _, _, _, h, h' => by simp only [RTs] at h'; subst h'; exact h
  | v :: vs, cs, _, xs, k, h, h' => by
    simp only [RTs] at h'
    obtain ⟨x, r, rfl, h1, h2⟩ := h'
    exact RTs.spl (vs := vs) (cs := cs.set k v) (us := r) (xs := xs.set k x) (k := k + 1) (RTs.set k h h1) h2
theorem take_spl {α : Type} (c u : List α) (off k : Nat) (h : off + u.length ≤ k) (hk : k ≤ c.length) : (c.take off ++ u ++ c.drop (off + u.length)).take k = (c.take k).take off ++ u ++ (c.take k).drop (off + u.length) := by
  apply List.ext_getElem?
  intro i
  simp only [List.getElem?_take, List.getElem?_append, List.length_append, List.length_take, List.getElem?_drop, Nat.min_eq_left (show off ≤ c.length by omega), Nat.min_eq_left hk, Nat.min_eq_left (show off ≤ k by omega)]
  by_cases h1 : i < off
  · have : i < off + u.length := by omega
    simp [h1, this]
  · by_cases h2 : i < off + u.length
    · have : i < k := by omega
      simp [h1, h2, this]
    · have h3 : off + u.length + (i - (off + u.length)) = i := by omega
      simp [h2, h3]
theorem drop_spl {α : Type} (c u : List α) (o off : Nat) (h : o + off + u.length ≤ c.length) : (c.take (o + off) ++ u ++ c.drop (o + off + u.length)).drop o = (c.drop o).take off ++ u ++ (c.drop o).drop (off + u.length) := by
  rw [List.append_assoc, List.drop_append_of_le_length (by rw [List.length_take]; omega), List.drop_take, List.drop_drop, ← List.append_assoc, Nat.add_sub_cancel_left, Nat.add_assoc]
/-- a store into an element of a row of the call's own -/
theorem lo_store_e (hL : TabOk P L) {t : TypeId} {ti : TI} {x y : Operand} {i off n sz : Nat} {v : Value} {e' : TypeId} {cs us : List T} {u : AV} (hx : ρ x = .eptr i v off) (hi : hp[i]? = some (.row v e' sz n cs)) (hy : ρ y = u) (ht : L.look t = some ti) (h1 : allOne (cellsA u) = true) (hl : (cellsA u).length = ti.size) (hz : Rzs [] (cellsA u) us) (hb : off + ti.size ≤ cs.length)
    (h : K (.c (.lit undef)) (hp.set i (.row v e' sz n (spl cs off us)))) : LO P F ⟨d, .store t x y, ty, pos, aft, g⟩ ρ hp K := by
  refine ⟨fun M e w he hh => ?_⟩
  have hax := he x (by simp [Op.operands])
  rw [hx] at hax
  simp only [RA] at hax
  obtain ⟨ad, m, c, rfl, hax⟩ := hax
  have hvy := he y (by simp [Op.operands])
  rw [hy] at hvy
  obtain ⟨hc, ho⟩ := cells_of hvy h1
  have hct := cls_sound _ _ _ hz hc
  obtain ⟨xs, how, hxs, hone, hsz⟩ := hh.at_ i _ hi
  have hlen := hxs.len
  have hcl := hc.len
  have hcs : (e y).cells.size = ti.size := by rw [← hl, ← hcl]; simp
  rcases how.2 with ⟨h0, _⟩ | ⟨g', o', cap, cur, hv, hg, hnc, hcm, hcur, htk⟩
  · cases h0
  · have hA : ad = ⟨g', o', none⟩ := by injection hv with h; injection h
    have hmn : m = n := by injection hv
    have hcc : c = cap := by injection hv
    subst hA; subst hmn; subst hcc
    have hxl := how.1
    have hoff : off + (e y).cells.toList.length ≤ xs.length := by rw [hlen]; simp [hcs]; omega
    have hcl2 : o' + xs.length ≤ cur.size := by rw [hxl]; have := Nat.mul_le_mul_right sz hnc; omega
    have hst := run_storeCells_at (P := P) g' (o' + off) e' (e y).cells.toList 0 cur w hg (by simp at hoff ⊢; omega) ho
    have hrun : (execOp e ⟨d, .store t x y, ty, pos, aft, g⟩).run P w = .ok .skip (w.setRow g' (spl cur.toList (o' + off) (e y).cells.toList).toArray) := by
      rw [spl_eq _ _ _ (by simp at hoff ⊢; omega)]
      have hadd : (⟨g', o', none⟩ : Addr).add off = ⟨g', o' + off, none⟩ := by rw [box_add]
      simp [execOp, Instr.storeAt, hax, hadd, Instr.sureAddr, storeVar, hL.sizeOf ht, hcs] at hst ⊢
      simp [hst]
    rw [hrun]
    refine ⟨M, _, _, h, Ext.refl _ _, ?_, by simp only [RA, RT]⟩
    have hblk := setRow_heap w g' cur (spl cur.toList (o' + off) (e y).cells.toList).toArray e' _ hg
    refine hh.step i rfl rfl rfl (by simp [World.setRow]) (fun k hk hne => ?_) (Ext.refl _ _) (fun p v h1 h2 => by rw [h2] at h1; cases h1) (fun j hj => by rw [List.getElem?_set_ne (Ne.symm hj)]) (fun x' hx' => ?_)
    · have : k ≠ g' := fun e => hne _ hi (by rw [e]; rfl)
      simp [World.setRow, Array.getElem?_modify, Ne.symm this]
    · have hlt : i < hp.length := (List.getElem?_eq_some_iff.1 hi).1
      rw [List.getElem?_set_self hlt] at hx'
      obtain rfl : Blk.row (.slice (some ⟨g', o', none⟩) m c) e' sz m (spl cs off us) = x' := by injection hx'
      refine ⟨⟨spl xs off (e y).cells.toList, ⟨by rw [spl_len]; exact hxl, .inr ⟨g', o', c, (spl cur.toList (o' + off) (e y).cells.toList).toArray, rfl, hblk, hnc, hcm, by simpa [spl_len] using hcur, ?_⟩⟩, RTs.spl hxs hct, spl_one hone ho, hsz⟩, fun b' hb' => .inl ⟨_, hi, hb'⟩⟩
      simp only
      rw [spl_eq _ _ _ (by simp at hoff ⊢; omega), spl_eq _ _ _ hoff, ← htk]
      have hk : off + (e y).cells.toList.length ≤ m * sz := by rw [← hxl]; exact hoff
      have hcl3 : o' + m * sz ≤ cur.toList.length := by rw [hxl] at hcl2; simpa using hcl2
      rw [drop_spl cur.toList (e y).cells.toList o' off (by omega)]
      exact take_spl (cur.toList.drop o') (e y).cells.toList off (m * sz) hk (by rw [List.length_drop]; omega)
end
section
variable {P : Program} {F : Frm} {L : Tab}
def OutA (L : Tab) (σ : AS) : ResultVar → AV → Prop
  | .tmp i, v => σ.tmps i = v
  | .cell a ty, v => ∃ i b off tb cs ti, σ.tmps a = .ptr i b off ∧ σ.hp[i]? = some (.box b tb cs) ∧ L.look ty = some ti ∧
      (match ti.agg with | true => off + ti.size ≤ cs.length ∧ v = .agg ((cs.drop off).take ti.size) | false => cs[off]? = some v)
def OutsA (L : Tab) (σ : AS) : List ResultVar → List AV → Prop
  | [], vs => vs = []
  | r :: rs, vs => ∃ v vs', vs = v :: vs' ∧ OutA L σ r v ∧ OutsA L σ rs vs'
def outA : List AV → AV
  | [v] => v
  | vs => .tup vs
theorem outA_sound {M : Mm} {σ : AS} {a : Act} {w : World} (hL : TabOk P L) (hr : Rep F M σ a w) {r : ResultVar} {v : AV} (ho : OutA L σ r v) :
    ∃ u, ((match r with | .tmp t => pure (a.tmps.getD t undef) | .cell a' t => do loadVar t (← asAddr (a.tmps.getD a' undef))) : Sem Value).run P w = .ok u w ∧ RA M v u := by
  cases r with
  | tmp i => exact ⟨_, rfl, by rw [← (show σ.tmps i = v from ho)]; exact hr.tmps i⟩
  | cell x ty =>
    obtain ⟨i, b, off, tb, cs, ti, h1, h2, h3, h4⟩ := ho
    have hv := hr.tmps x
    rw [h1] at hv
    simp only [RA] at hv
    simp only [hv, asAddr, Sem.run_bind, Sem.run_pure, Result.andThen_ok]
    cases hag : ti.agg with
    | true =>
      rw [hag] at h4
      obtain ⟨u, hu, hra⟩ := load_box hL hr.heap h2 h3 hag h4.1
      exact ⟨u, hu, by rw [h4.2]; exact hra⟩
    | false =>
      rw [hag] at h4
      exact load_box1 hL hr.heap h2 h3 hag h4
theorem outsA_sound {M : Mm} {σ : AS} {a : Act} {w : World} (hL : TabOk P L) (hr : Rep F M σ a w) : ∀ {rs : List ResultVar} {vs : List AV}, OutsA L σ rs vs →
    ∃ us, (rs.mapM fun r => ((match r with | .tmp t => pure (a.tmps.getD t undef) | .cell a' t => do loadVar t (← asAddr (a.tmps.getD a' undef))) : Sem Value)).run P w = .ok us w ∧ RAs M vs us
  | [], vs, ho => by
    simp only [OutsA] at ho
    subst ho
    exact ⟨[], rfl, by simp only [RAs]⟩
  | r :: rs, vs, ho => by
    simp only [OutsA] at ho
    obtain ⟨v, vs', rfl, h1, h2⟩ := ho
    obtain ⟨u, hu, hu'⟩ := outA_sound hL hr h1
    obtain ⟨us, hus, hus'⟩ := outsA_sound hL hr h2
    refine ⟨u :: us, ?_, by simp only [RAs]; exact ⟨u, us, rfl, hu', hus'⟩⟩
    simp only [List.mapM_cons, Sem.run_bind, hu, Result.andThen_ok, hus, Sem.run_pure]
theorem resultsA_sound {M : Mm} {σ : AS} {a : Act} {w : World} (hL : TabOk P L) (hr : Rep F M σ a w) {fn : Func} {vs : List AV} (ho : OutsA L σ fn.results.toList vs) :
    ∃ u, (results fn a.tmps).run P w = .ok u w ∧ RA M (outA vs) u := by
  obtain ⟨us, hus, hr⟩ := outsA_sound hL hr ho
  have hlen := hr.len
  have hm : (fn.results.mapM fun r => ((match r with | .tmp t => pure (a.tmps.getD t undef) | .cell a' t => do loadVar t (← asAddr (a.tmps.getD a' undef))) : Sem Value)).run P w = .ok us.toArray w := by
    rw [Array.mapM_eq_mapM_toList]
    rw [Sem.run_map, hus]
    rfl
  refine ⟨if h : us.toArray.size = 1 then us.toArray[0] else .tuple us.toArray, ?_, ?_⟩
  · unfold results
    simp only [Sem.run_bind, Sem.run_pure]
    erw [hm]
    rfl
  · match vs, us, hlen, hr with
    | [], [], _, hr => simp only [outA, RA]; exact ⟨[], by simp, hr⟩
    | [t], [u], _, hr =>
      simp only [RAs] at hr
      obtain ⟨x, r, e, h1, _⟩ := hr
      injection e with e _
      subst e
      simpa [outA] using h1
    | t1 :: t2 :: ts, u1 :: u2 :: us, _, hr => simp only [outA, RA]; exact ⟨u1 :: u2 :: us, by simp, hr⟩
end
end Go.Proofs.Ytgjfiedepfjdcaa
namespace Go.Proofs.Ytgjfiedepfjdcaa
open Go.RowKit
section
variable {P : Program} {F : Frm} {ops : Array Oper} {md : Region.Mode} {N : Nat} {cls : Nat → Nat}
theorem WO.mono {K K' : (Nat → AV) → List Blk → Prop} : ∀ (r : List Nat) {τ : Nat → AV} {hp : List Blk}, (∀ τ hp, K τ hp → K' τ hp) → WO P F ops N cls K r τ hp → WO P F ops N cls K' r τ hp
  | [], τ, hp, h, hw => h τ hp hw
  | _ :: r, _, _, h, hw => opA_mono (fun _ _ h' => WO.mono r h h') hw
end
section
variable {P : Program} {F : Frm} {L : Tab} {d : Option Tmp} {ty : TypeId} {pos : String} {aft : Array Edge} {g : Option (Nat × Bool)} {ρ : Operand → AV} {hp : List Blk} {K : AV → List Blk → Prop}
theorem zMk {t el : TypeId} {ti te : TI} {x y : Operand} (n : Nat) (z : List T) {k : IntKind} {a a' : Int} {q : Nat} {hp' : Value → List Blk} (h : ∀ v, K (.own q v) (hp' v)) (hL : TabOk P L := by exact tok) (hx : ρ x = .c (.lit (.int k a)) := by exact rfl) (hy : ρ y = .c (.lit (.int k a')) := by exact rfl) (hz : a = (n : Int) := by first | exact rfl | assumption) (hz' : a' = (n : Int) := by first | exact rfl | assumption) (ht : L.look t = some ti := by exact rfl) (hd : ti.d = .slice el := by exact rfl) (hte : L.look el = some te := by exact rfl) (h0 : Nat.ble 1 te.size = true := by exact rfl)
    (hzz : Rzs [] (te.zero.map fun v => .c (.lit v)) z := by repeat (first | exact rzs_nil | apply rzs_cons | exact rz_c | exact rz_nil rfl)) (hq : lenU hp = some q := by exact rfl) (hf : ∀ v, evl (hp ++ [.row v el te.size n (List.replicate n z).flatten]) = some (hp' v) := by exact fun _ => rfl)
    (hn : n * te.bytes ≤ 140737488355328 := by first | (simp only []; omega) | (dsimp only at *; omega)) (hn2 : n ≤ 140737488355328 := by first | omega | (dsimp only at *; omega)) : LO P F ⟨d, .makeSlice t x y, ty, pos, aft, g⟩ ρ hp K :=
  lo_make hL n hx hy hz hz' ht hd hte h0 hn hn2 hzz fun v => by rw [← evl_eq (hf v), ← lenU_eq hq]; exact h v
/-- a store into a row of the call's own; what the row then holds must be told -/
theorem zSe {t : TypeId} {ti : TI} {x y : Operand} {i off n sz : Nat} {v : Value} {e' : TypeId} {cs us cs' : List T} {u : AV} {vs : List AV} {hp' : List Blk} (hsp : spl cs off us = cs') (hb : off + ti.size ≤ cs.length) (h : K (.c (.lit undef)) hp') (hL : TabOk P L := by exact tok) (hx : ρ x = .eptr i v off := by exact rfl) (hi : hp[i]? = some (.row v e' sz n cs) := by exact rfl) (hy : fc (ρ y) = some u := by exact rfl) (ht : L.look t = some ti := by exact rfl)
    (hc : evl (cellsA u) = some vs := by exact rfl) (h1 : allOne vs = true := by exact rfl) (hl : lenU vs = some ti.size := by exact rfl) (hz : Rzs [] vs us := by repeat (first | exact rzs_nil | apply rzs_cons | exact rz_c | exact rz_nil rfl | apply rz_agg)) (hf : evl (hp.set i (.row v e' sz n cs')) = some hp' := by exact rfl) : LO P F ⟨d, .store t x y, ty, pos, aft, g⟩ ρ hp K := by
  have hc' := evl_eq hc
  subst hsp
  rw [hc'] at h1 hz hl
  refine lo_store_e hL hx hi (fc_eq hy) ht h1 (lenU_eq hl).symm hz hb ?_
  rw [← evl_eq hf]
  exact h
end
end Go.Proofs.Ytgjfiedepfjdcaa
namespace Go.Proofs.Ytgjfiedepfjdcaa
open Go.RowKit
section
variable {P : Program} {F : Frm} {L : Tab} {d : Option Tmp} {ty : TypeId} {pos : String} {aft : Array Edge} {g : Option (Nat × Bool)} {ρ : Operand → AV} {hp : List Blk} {K : AV → List Blk → Prop}
theorem rt_part {M : Mm} {n sz l h : Nat} {cs : List T} {A : Option Addr} {c : Nat} (hr : RT M (.row n sz cs) (.slice A n c)) (hlh : l ≤ h) (hhn : h ≤ n) :
    RT M (.row (h - l) sz ((cs.drop (l * sz)).take ((h - l) * sz))) (.slice (if c = l then A else A.map (·.add (l * sz))) (h - l) (c - l)) := by
  simp only [RT] at hr ⊢
  obtain ⟨A', c', xs, e, hc, hm, h0, hx, hat, hrt⟩ := hr
  injection e with e1 _ e2
  subst e1; subst e2
  have hle : (h - l) * sz ≤ n * sz - l * sz := by rw [← Nat.sub_mul]; exact Nat.mul_le_mul_right _ (by omega)
  refine ⟨_, _, (xs.drop (l * sz)).take ((h - l) * sz), rfl, by omega, by omega, h0, by simp [hx]; omega, fun hpos => ?_, (hrt.drop _).take _⟩
  obtain ⟨ad, rfl, hA⟩ := hat (by omega)
  rw [if_neg (by omega)]
  refine ⟨_, rfl, fun j x hj => ?_⟩
  rw [add_add']
  refine hA _ _ ?_
  rw [List.getElem?_take] at hj
  split at hj
  · rw [List.getElem?_drop] at hj; exact hj
  · cases hj
theorem lo_part_hi (hL : TabOk P L) {t el : TypeId} {ti te : TI} {x y : Operand} {n sz : Nat} {cs : List T} {k : IntKind} {z : Int} (h : Nat) (hh : h ≤ n) (hx : ρ x = .c (.row n sz cs)) (hy : ρ y = .c (.lit (.int k z))) (hz : z = (h : Int)) (ht : L.look t = some ti) (hd : ti.d = .slice el) (hte : L.look el = some te) (hsz : te.size = sz)
    (hK : K (.c (.row h sz (cs.take (h * sz)))) hp) : LO P F ⟨d, .slice t x none (some y) none, ty, pos, aft, g⟩ ρ hp K := by
  refine LO.same (fun M e w he _ => ?_) hK
  have h1 := he x (by simp [Op.operands])
  rw [hx] at h1
  simp only [RA] at h1
  have h2 := he y (by simp [Op.operands])
  rw [hy] at h2
  simp only [RA, RT] at h2
  have h3 := h1
  simp only [RT] at h3
  obtain ⟨A, c, xs, hu, hc, _⟩ := h3
  rw [hu] at h1
  refine ⟨_, ?_, by simp only [RA]; simpa using rt_part (l := 0) h1 (Nat.zero_le _) hh⟩
  subst hz
  have hb := run_sliceBound (P := P) (w := w) k (h : Int) c .sliceAcap (by omega) (by omega)
  simp [execOp, Instr.sliceAt, Instr.slice, Instr.sliceBounds, hu, h2, run_underlying (hL.slice ht hd), hL.sizeOf hte, hb, hsz]
theorem lo_part_lo (hL : TabOk P L) {t el : TypeId} {ti te : TI} {x y : Operand} {n sz : Nat} {cs : List T} {k : IntKind} {z : Int} (l : Nat) (hl : l ≤ n) (hx : ρ x = .c (.row n sz cs)) (hy : ρ y = .c (.lit (.int k z))) (hz : z = (l : Int)) (ht : L.look t = some ti) (hd : ti.d = .slice el) (hte : L.look el = some te) (hsz : te.size = sz)
    (hK : K (.c (.row (n - l) sz ((cs.drop (l * sz)).take ((n - l) * sz)))) hp) : LO P F ⟨d, .slice t x (some y) none none, ty, pos, aft, g⟩ ρ hp K := by
  refine LO.same (fun M e w he _ => ?_) hK
  have h1 := he x (by simp [Op.operands])
  rw [hx] at h1
  simp only [RA] at h1
  have h2 := he y (by simp [Op.operands])
  rw [hy] at h2
  simp only [RA, RT] at h2
  have h3 := h1
  simp only [RT] at h3
  obtain ⟨A, c, xs, hu, hc, _⟩ := h3
  rw [hu] at h1
  refine ⟨_, ?_, by simp only [RA]; exact rt_part (l := l) h1 hl (Nat.le_refl _)⟩
  subst hz
  have hb := run_sliceBound (P := P) (w := w) k (l : Int) n .sliceB (by omega) (by omega)
  simp [execOp, Instr.sliceAt, Instr.slice, Instr.sliceBounds, hu, h2, run_underlying (hL.slice ht hd), hL.sizeOf hte, hb, hsz]
theorem zSub {t t' : TypeId} {x y : Operand} {a b : Int} (h : K (.c (.lit (.int .i64 (a - b)))) hp) (hx : ρ x = .c (.lit (.int .i64 a)) := by exact rfl) (hy : ρ y = .c (.lit (.int .i64 b)) := by exact rfl) (hr : -9223372036854775808 ≤ a - b ∧ a - b ≤ 9223372036854775807 := by first | omega | (dsimp only at *; omega)) : LO P F ⟨d, .binOp .sub t x y t', ty, pos, aft, g⟩ ρ hp K :=
  lo_sub hx hy (IntWalk.i64_in _ hr) h
theorem bs_size (a : Array UInt8) : (ByteArray.mk a).size = a.size := rfl
theorem zCat {t t' : TypeId} {x y : Operand} {s s' : ByteArray} (h : K (.c (.lit (.string (s ++ s')))) hp) (hx : ρ x = .c (.lit (.string s)) := by exact rfl) (hy : ρ y = .c (.lit (.string s')) := by exact rfl) (hb : s.size + s'.size ≤ 9223372036854775807 := by first | (simp only [ByteArray.size_append, bs_size, List.size_toArray, List.length_cons, List.length_nil]; omega) | omega) : LO P F ⟨d, .binOp .add t x y t', ty, pos, aft, g⟩ ρ hp K :=
  lo_cat hx hy hb h
end
end Go.Proofs.Ytgjfiedepfjdcaa
namespace Go.Proofs.Ytgjfiedepfjdcaa
open Go.RowKit
def isPtr (P : Program) (t : TypeId) : Bool := match P.underlying t with | some (.pointer _) => true | _ => false
theorem isPtr_eq {P : Program} {t : TypeId} (h : isPtr P t = true) : ∃ e, P.underlying t = some (.pointer e) := by
  unfold isPtr at h
  split at h
  · exact ⟨_, by assumption⟩
  · cases h
theorem run_nil {P : Program} {t : TypeId} (h : isPtr P t = true) (a : Option Addr) (w : World) : (Op.equal t (.pointer a) (.pointer none)).run P w = .ok a.isNone w := by
  obtain ⟨e, he⟩ := isPtr_eq h
  rw [Op.equal, show Op.maxDepth = 9999 + 1 from rfl, Op.equalIn]
  simp only [Sem.run_bind, run_underlying he, Result.andThen_ok]
  cases a <;> rfl
theorem guard_ptr {P : Program} {op : BinOp} {t : TypeId} {x y : Operand} {a b : Option Addr} (w : World) : (eqGuard op t x y (.pointer a) (.pointer b)).run P w = .ok () w := by
  unfold eqGuard; simp
section
variable {P : Program} {F : Frm} {L : Tab} {d : Option Tmp} {ty : TypeId} {pos : String} {aft : Array Edge} {g : Option (Nat × Bool)} {ρ : Operand → AV} {hp : List Blk} {K : AV → List Blk → Prop}
theorem lo_nil {t t' : TypeId} {x y : Operand} {v : AV} {c : Bool} (hx : ρ x = v) (hv : ∀ M u, RA M v u → ∃ a : Option Addr, u = .pointer a ∧ a.isNone = c) (hy : ρ y = .c (.lit (.pointer none))) (hu : isPtr P t = true) (h : K (.c (.lit (.bool c))) hp) : LO P F ⟨d, .binOp .eql t x y t', ty, pos, aft, g⟩ ρ hp K := by
  refine LO.same (fun M e w he hh => ?_) h
  have h1 := he x (by first | (simp [Op.operands]; done) | simp [Op.operands, Call.operands])
  rw [hx] at h1
  obtain ⟨a, ha, hc⟩ := hv M _ h1
  have h2 := he y (by first | (simp [Op.operands]; done) | simp [Op.operands, Call.operands])
  rw [hy] at h2
  simp only [RA, RT] at h2
  refine ⟨.bool c, ?_, by simp only [RA, RT]⟩
  simp [execOp, ha, h2, guard_ptr, binOp, run_nil hu, hc]
theorem lo_nnil {t t' : TypeId} {x y : Operand} {v : AV} {c : Bool} (hx : ρ x = v) (hv : ∀ M u, RA M v u → ∃ a : Option Addr, u = .pointer a ∧ a.isNone = c) (hy : ρ y = .c (.lit (.pointer none))) (hu : isPtr P t = true) (h : K (.c (.lit (.bool (!c)))) hp) : LO P F ⟨d, .binOp .neq t x y t', ty, pos, aft, g⟩ ρ hp K := by
  refine LO.same (fun M e w he hh => ?_) h
  have h1 := he x (by first | (simp [Op.operands]; done) | simp [Op.operands, Call.operands])
  rw [hx] at h1
  obtain ⟨a, ha, hc⟩ := hv M _ h1
  have h2 := he y (by first | (simp [Op.operands]; done) | simp [Op.operands, Call.operands])
  rw [hy] at h2
  simp only [RA, RT] at h2
  refine ⟨.bool (!c), ?_, by simp only [RA, RT]⟩
  simp [execOp, ha, h2, guard_ptr, binOp, run_nil hu, hc]
theorem pin_some (cs : List T) (off : Nat) (M : Mm) (u : Value) (h : RA M (.c (.pin cs off)) u) : ∃ a : Option Addr, u = .pointer a ∧ a.isNone = false := by
  simp only [RA, RT] at h
  obtain ⟨ad, xs, rfl, _⟩ := h
  exact ⟨_, rfl, rfl⟩
theorem nil_none (M : Mm) (u : Value) (h : RA M (.c (.lit (.pointer none))) u) : ∃ a : Option Addr, u = .pointer a ∧ a.isNone = true := by
  simp only [RA, RT] at h
  exact ⟨_, h, rfl⟩
theorem ptr_some (i b off : Nat) (M : Mm) (u : Value) (h : RA M (.ptr i b off) u) : ∃ a : Option Addr, u = .pointer a ∧ a.isNone = false := by
  simp only [RA] at h
  exact ⟨_, h, rfl⟩
variable {t t' : TypeId} {x y : Operand} {cs : List T} {off i b : Nat}
theorem zQ1 (h : K (.c (.lit (.bool false))) hp) (hx : ρ x = .c (.pin cs off) := by exact rfl) (hy : ρ y = .c (.lit (.pointer none)) := by exact rfl) (hu : isPtr P t = true := by kernel_rfl) : LO P F ⟨d, .binOp .eql t x y t', ty, pos, aft, g⟩ ρ hp K := lo_nil hx (pin_some cs off) hy hu h
theorem zQ2 (h : K (.c (.lit (.bool true))) hp) (hx : ρ x = .c (.lit (.pointer none)) := by exact rfl) (hy : ρ y = .c (.lit (.pointer none)) := by exact rfl) (hu : isPtr P t = true := by kernel_rfl) : LO P F ⟨d, .binOp .eql t x y t', ty, pos, aft, g⟩ ρ hp K := lo_nil hx nil_none hy hu h
theorem zQ3 (h : K (.c (.lit (.bool false))) hp) (hx : ρ x = .ptr i b off := by exact rfl) (hy : ρ y = .c (.lit (.pointer none)) := by exact rfl) (hu : isPtr P t = true := by kernel_rfl) : LO P F ⟨d, .binOp .eql t x y t', ty, pos, aft, g⟩ ρ hp K := lo_nil hx (ptr_some i b off) hy hu h
theorem zQ4 (h : K (.c (.lit (.bool true))) hp) (hx : ρ x = .c (.pin cs off) := by exact rfl) (hy : ρ y = .c (.lit (.pointer none)) := by exact rfl) (hu : isPtr P t = true := by kernel_rfl) : LO P F ⟨d, .binOp .neq t x y t', ty, pos, aft, g⟩ ρ hp K := lo_nnil hx (pin_some cs off) hy hu h
theorem zQ5 (h : K (.c (.lit (.bool false))) hp) (hx : ρ x = .c (.lit (.pointer none)) := by exact rfl) (hy : ρ y = .c (.lit (.pointer none)) := by exact rfl) (hu : isPtr P t = true := by kernel_rfl) : LO P F ⟨d, .binOp .neq t x y t', ty, pos, aft, g⟩ ρ hp K := lo_nnil hx nil_none hy hu h
theorem zQ6 (h : K (.c (.lit (.bool true))) hp) (hx : ρ x = .ptr i b off := by exact rfl) (hy : ρ y = .c (.lit (.pointer none)) := by exact rfl) (hu : isPtr P t = true := by kernel_rfl) : LO P F ⟨d, .binOp .neq t x y t', ty, pos, aft, g⟩ ρ hp K := lo_nnil hx (ptr_some i b off) hy hu h
theorem lo_nck {v : AV} (hx : ρ x = v) (hv : ∀ M u, RA M v u → ∃ a : Option Addr, u = .pointer a ∧ a.isNone = false) (h : K v hp) : LO P F ⟨d, .nilCheck x, ty, pos, aft, g⟩ ρ hp K := by
  refine LO.same (fun M e w he hh => ?_) h
  have h1 := he x (by first | (simp [Op.operands]; done) | simp [Op.operands, Call.operands])
  rw [hx] at h1
  obtain ⟨a, ha, hc⟩ := hv M _ h1
  cases a with
  | none => cases hc
  | some a => exact ⟨.pointer (some a), by simp [execOp, ha], by rw [← ha]; exact h1⟩
theorem zK1 (h : K (.c (.pin cs off)) hp) (hx : ρ x = .c (.pin cs off) := by exact rfl) : LO P F ⟨d, .nilCheck x, ty, pos, aft, g⟩ ρ hp K := lo_nck hx (pin_some cs off) h
theorem zK2 (h : K (.ptr i b off) hp) (hx : ρ x = .ptr i b off := by exact rfl) : LO P F ⟨d, .nilCheck x, ty, pos, aft, g⟩ ρ hp K := lo_nck hx (ptr_some i b off) h
end
end Go.Proofs.Ytgjfiedepfjdcaa
namespace Go.Proofs.Ytgjfiedepfjdcaa
open Go.RowKit
/-- keys of a kind, told by what they stand for -/
structure KeyIs {α : Type} (dk : TypeDesc) (κ : α → Value) : Prop where
  is : ∀ a, MapKept.IsKey dk (κ a)
  inj : ∀ a b, κ a = κ b → a = b
theorem keyInt (k : IntKind) : KeyIs (.int k) (Value.int k) := ⟨fun _ => rfl, fun _ _ h => by injection h⟩
section
variable {α : Type} [DecidableEq α]
def mkeys (κ : α → Value) (l : List (α × T)) : List (Value × T) := l.map fun p => (κ p.1, p.2)
def mget (k : α) : List (α × T) → Option T
  | [] => none
  | (k', t) :: l => if k = k' then some t else mget k l
def mput (k : α) (t : T) : List (α × T) → List (α × T)
  | [] => [(k, t)]
  | (k', t') :: l => if k = k' then (k, t) :: l else (k', t') :: mput k t l
theorem find_keys {dk : TypeDesc} {κ : α → Value} (hκ : KeyIs dk κ) (k : α) : ∀ (l : List (α × T)) (es : List MapEntry) (i : Nat), es.map (·.key) = l.map (fun p => κ p.1) →
    (Instr.findNow dk (κ k) es i = some none ∧ mget k l = none ∧ ∀ t, mput k t l = l ++ [(k, t)]) ∨
    ∃ j e t, Instr.findNow dk (κ k) es i = some (some (i + j, e.val)) ∧ es[j]? = some e ∧ l[j]? = some (k, t) ∧ mget k l = some t ∧ ∀ t', mput k t' l = l.set j (k, t')
  | [], es, i, h => by
    obtain rfl : es = [] := by simpa using h
    exact .inl ⟨rfl, rfl, fun _ => rfl⟩
  | (k', t') :: l, [], i, h => by simp at h
  | (k', t') :: l, e :: es, i, h => by
    simp only [List.map_cons, List.cons.injEq] at h
    obtain ⟨r, hr, hiff⟩ := MapKept.sameNow_of_keys (hκ.is k) (by rw [h.1]; exact hκ.is k' : MapKept.IsKey dk e.key)
    rw [h.1] at hiff
    by_cases hk : k = k'
    · subst hk
      obtain rfl : r = true := hiff.2 rfl
      exact .inr ⟨0, e, t', by simp [Instr.findNow, hr], rfl, rfl, by simp [mget], fun t => by simp [mput]⟩
    · have hrf : r = false := by
        cases r with
        | false => rfl
        | true => exact absurd (hκ.inj _ _ (hiff.1 rfl)) hk
      subst hrf
      rcases find_keys hκ k l es (i + 1) h.2 with ⟨h1, h2, h3⟩ | ⟨j, e', t, h1, h2, h3, h4, h5⟩
      · exact .inl ⟨by simp [Instr.findNow, hr, h1], by simp [mget, hk, h2], fun t => by simp [mput, hk, h3]⟩
      · exact .inr ⟨j + 1, e', t, by simp [Instr.findNow, hr, h1]; omega, by simpa using h2, by simpa using h3, by simp [mget, hk, h4], fun t => by simp [mput, hk, h5]⟩
end
theorem sameBits_key {dk : TypeDesc} {v : Value} (h : MapKept.IsKey dk v) (n : Nat) : Instr.sameBits n v v = true := by
  cases dk <;> cases v <;> simp_all [MapKept.IsKey, Instr.sameBits, MapKept.bytes_beq]
theorem run_stays {P : Program} {dk : TypeDesc} {v : Value} (h : MapKept.IsKey dk v) (w : World) : (Instr.keyThatStays v v).run P w = .ok v w := by
  unfold Instr.keyThatStays
  rw [if_pos (sameBits_key h _)]
  rfl
section
variable {P : Program} {F : Frm} {L : Tab} {d : Option Tmp} {ty : TypeId} {pos : String} {aft : Array Edge} {g : Option (Nat × Bool)} {ρ : Operand → AV} {hp : List Blk} {K : AV → List Blk → Prop}
theorem lo_makeMap {t : TypeId} (h : ∀ b, K (.own hp.length (.map (some b))) (hp ++ [.mp b []])) : LO P F ⟨d, .makeMap t none, ty, pos, aft, g⟩ ρ hp K := by
  refine ⟨fun M e w he hh => ?_⟩
  have : (execOp e ⟨d, .makeMap t none, ty, pos, aft, g⟩).run P w = .ok (.value (.map (some w.heap.size))) (w.alloc (.map #[] 0)) := by
    have hm : (Instr.makeMap t none).run P w = .ok (.map (some w.heap.size)) (w.alloc (.map #[] 0)) := rfl
    simp [execOp, hm]
  rw [this]
  refine ⟨M, _, _, h w.heap.size, Ext.refl _ _, ?_, by simp only [RA]; exact ⟨trivial, rfl⟩⟩
  refine hh.step hp.length rfl rfl rfl (by simp) (fun b hb _ => Below.heap_alloc _ _ _ hb) (Ext.refl _ _) (fun p v h1 h2 => by rw [h2] at h1; cases h1) (fun j hj => ?_) (fun x' hx' => ?_)
  · rcases Nat.lt_or_ge j hp.length with h | h
    · rw [List.getElem?_append_left h]
    · rw [List.getElem?_eq_none (by simp; omega), List.getElem?_eq_none (by omega)]
  · have : x' = .mp w.heap.size [] := by simpa using hx'.symm
    subst this
    refine ⟨⟨[], 0, heap_alloc_new w _, rfl, by simp [RTs], ⟨List.nodup_nil, fun _ h => by cases h⟩, fun _ h => by cases h⟩, fun b hb => .inr ?_⟩
    obtain rfl : w.heap.size = b := by simpa [Blk.blk] using hb
    refine ⟨Nat.le_refl _, fun p hp => ?_⟩
    cases hc : M p with
    | none => rfl
    | some v => have := World.block_lt_of_cell? w p (hh.mem p v hc).1; omega
variable {α : Type} [DecidableEq α] {κ : α → Value} {dk : TypeDesc} {xT kT eT : TypeId} {x y z : Operand} {i b : Nat} {l : List (α × T)} {k : α} {te : TI} {z0 : Value} {o : Option (List Nat × Nat)}
theorem set_modify (es : List MapEntry) (j : Nat) (f : MapEntry → MapEntry) {e : MapEntry} (h : es[j]? = some e) : es.modify j f = es.set j (f e) := by
  apply List.ext_getElem?
  intro q
  rw [List.getElem?_modify, List.getElem?_set]
  by_cases hq : j = q
  · subst hq
    obtain ⟨h1, h2⟩ := List.getElem?_eq_some_iff.1 h
    simp [h1, h2]
  · simp [hq]
theorem lo_mapUpdate (hκ : KeyIs dk κ) {t : T} (hu : P.underlying xT = some (.map kT eT)) (hk : P.underlying kT = some dk) (hx : ρ x = .own i (.map (some b))) (hi : hp[i]? = some (.mpx b (mkeys κ l) o)) (hy : ρ y = .c (.lit (κ k))) (hz : ∀ M u, RA M (ρ z) u → RT M t u)
    (ho : o = none ∨ (mget k l).isSome = true) (h : K (.c (.lit undef)) (hp.set i (.mpx b (mkeys κ (mput k t l)) o))) : LO P F ⟨d, .mapUpdate xT x y z, ty, pos, aft, g⟩ ρ hp K := by
  refine ⟨fun M e w he hh => ?_⟩
  have h1 := he x (by first | (simp [Op.operands]; done) | simp [Op.operands, Call.operands])
  rw [hx] at h1
  simp only [RA] at h1
  have h2 := he y (by first | (simp [Op.operands]; done) | simp [Op.operands, Call.operands])
  rw [hy] at h2
  simp only [RA, RT] at h2
  have h3 := hz M _ (he z (by first | (simp [Op.operands]; done) | simp [Op.operands, Call.operands]))
  obtain ⟨es, clock, hb, hkeys, hvals, hstm, hst⟩ := hh.at_ i _ hi
  have hkeys' : es.map (·.key) = l.map (fun p => κ p.1) := by rw [hkeys]; simp [mkeys]
  have hvals' : RTs M (l.map (·.2)) (es.map (·.val)) := by simpa [mkeys, Function.comp_def] using hvals
  have hlt : b < w.heap.size := (Array.getElem?_eq_some_iff.1 hb).1
  have hil : i < hp.length := (List.getElem?_eq_some_iff.1 hi).1
  obtain ⟨es', clock', hrun, hke, hva, hsm⟩ : ∃ (es' : List MapEntry) (clock' : Nat), (execOp e ⟨d, .mapUpdate xT x y z, ty, pos, aft, g⟩).run P w = .ok .skip { w with heap := w.heap.setIfInBounds b (.map es'.toArray clock') } ∧ es'.map (·.key) = (mkeys κ (mput k t l)).map (·.1) ∧ RTs M ((mkeys κ (mput k t l)).map (·.2)) (es'.map (·.val)) ∧ Stm es' clock' ∧ ∀ s ∈ o, s = (es'.map (·.born), clock') := by
    rcases find_keys hκ k l es 0 hkeys' with ⟨f1, f2, f3⟩ | ⟨j, e', t', f1, f2, f3, f4, f5⟩
    · refine ⟨es ++ [⟨κ k, e z, clock⟩], clock + 1, ?_, ?_, ?_, ⟨?_, ?_⟩, ?_⟩
      · simp [execOp, Instr.mapUpdate, h1.1, h2, run_underlying hu, MapKept.run_getObj_map hb, MapKept.run_checkKey hk (hκ.is k), MapKept.run_findKey hk f1, MapKept.run_setObj_map _ hb]
      · rw [f3]; simp [mkeys, hkeys']
      · rw [f3]
        have : RTs M (l.map (·.2) ++ [t]) (es.map (·.val) ++ [e z]) := hvals'.app (by simp only [RTs]; exact ⟨_, _, rfl, h3, rfl⟩)
        simpa [mkeys, Function.comp_def] using this
      · rw [List.map_append, List.nodup_append]
        refine ⟨hstm.1, by simp, fun a ha b hb => ?_⟩
        obtain ⟨x, hx, rfl⟩ := List.mem_map.1 ha
        have := hstm.2 x hx
        simp only [List.map_cons, List.map_nil, List.mem_singleton] at hb
        omega
      · intro x hx
        rcases List.mem_append.1 hx with hx | hx
        · have := hstm.2 x hx; omega
        · rw [List.mem_singleton.1 hx]; simp only; omega
      · rcases ho with rfl | ho
        · intro s hs; cases hs
        · rw [f2] at ho; cases ho
    · have hek : e'.key = κ k := by
        have := congrArg (fun l => l[j]?) hkeys'
        simp only [List.getElem?_map, f2, f3, Option.map_some, Option.some.injEq] at this
        exact this
      have hjl : j < es.length := (List.getElem?_eq_some_iff.1 f2).1
      have hbo : (es.set j ⟨κ k, e z, e'.born⟩).map (·.born) = es.map (·.born) := by
        obtain ⟨hj1, hj2⟩ := List.getElem?_eq_some_iff.1 f2
        rw [List.map_set, show e'.born = (es.map (·.born))[j]'(by simpa using hj1) by rw [List.getElem_map, hj2]]
        exact List.set_getElem_self _
      refine ⟨es.set j ⟨κ k, e z, e'.born⟩, clock, ?_, ?_, ?_, ⟨by rw [hbo]; exact hstm.1, ?_⟩, by rw [hbo]; exact hst⟩
      · have hm := set_modify es j (fun q => { q with key := κ k, val := e z }) f2
        have hge : es[j]? = some e' := f2
        simp [execOp, Instr.mapUpdate, h1.1, h2, run_underlying hu, MapKept.run_getObj_map hb, MapKept.run_checkKey hk (hκ.is k), MapKept.run_findKey hk f1, hge, hek, run_stays (hκ.is k), MapKept.run_setObj_map _ hb, hm]
      · rw [f5]
        simp only [mkeys, List.map_set, List.map_map]
        rw [hkeys']
        rfl
      · rw [f5]
        have := RTs.set j hvals' h3
        simpa [mkeys, Function.comp_def, List.map_set] using this
      · intro x hx
        have hx2 : x.born ∈ es.map (·.born) := by rw [← hbo]; exact List.mem_map.2 ⟨x, hx, rfl⟩
        obtain ⟨y, hy, hyx⟩ := List.mem_map.1 hx2
        have := hstm.2 y hy
        omega
  rw [hrun]
  refine ⟨M, _, _, h, Ext.refl _ _, ?_, by simp only [RA, RT]⟩
  refine hh.step i rfl rfl rfl (by simp) (fun c hc hne => ?_) (Ext.refl _ _) (fun p v h1 h2 => by rw [h2] at h1; cases h1) (fun j hj => by rw [List.getElem?_set_ne (Ne.symm hj)]) (fun x' hx' => ?_)
  · have : c ≠ b := fun e => hne _ hi (by rw [e]; rfl)
    simp [Array.getElem?_setIfInBounds, Ne.symm this]
  · rw [List.getElem?_set_self hil] at hx'
    obtain rfl : Blk.mpx b (mkeys κ (mput k t l)) o = x' := by injection hx'
    exact ⟨⟨es', clock', by simp [Array.getElem?_setIfInBounds, hlt], hke, hva, hsm⟩, fun b' hb' => .inl ⟨_, hi, hb'⟩⟩
theorem zMm {t : TypeId} {n : Nat} {hp' : Nat → List Blk} (h : ∀ b, K (.own n (.map (some b))) (hp' b)) (hn : lenU hp = some n := by exact rfl) (hf : ∀ b, evl (hp ++ [.mp b []]) = some (hp' b) := by exact fun _ => rfl) : LO P F ⟨d, .makeMap t none, ty, pos, aft, g⟩ ρ hp K :=
  lo_makeMap fun b => by rw [← evl_eq (hf b), ← lenU_eq hn]; exact h b
def isMap (P : Program) (t : TypeId) : Option (TypeId × TypeId) := match P.underlying t with | some (.map k e) => some (k, e) | _ => none
theorem isMap_eq {t : TypeId} (h : isMap P t = some (kT, eT)) : P.underlying t = some (.map kT eT) := by
  unfold isMap at h
  split at h
  · rename_i h'
    injection h with h
    injection h with h1 h2
    rw [h', h1, h2]
  · cases h
end
end Go.Proofs.Ytgjfiedepfjdcaa
