/-
  Texts of this proof, part 4: Ab12 Ab13 Ab14 Ab15 Ab16 Ab26 Ab20 Ab21 Ab22 Ab23 Ab24 Ab29 Ab35 Ab37 Ab38 Ab47.
-/
import Derived.Test.YtadlmkgeplnemaaDoorQLockTexts3
import Derived.ChangeKeysEq
import Derived.Laws.IdiomRangeMap
import Derived.Laws.Strings2
import Derived.Lib.AppendStr
import Derived.Lib.AppendZerosOnto
import Derived.Lib.MinMax
import Derived.MapKept
namespace Go.Proofs.YtadlmkgeplnemaaDoor
open Go.RowKit
/-- what a slot holds, laid open -/
def fc : AV → Option AV
  | .c t => some (.c t)
  | .agg cs => some (.agg cs)
  | .tup cs => some (.tup cs)
  | .fn f cap => some (.fn f cap)
  | .ptr i b off => some (.ptr i b off)
  | .own i v => some (.own i v)
  | .eptr i v k => some (.eptr i v k)
  | .junk => none
theorem fc_eq : ∀ {v u : AV}, fc v = some u → v = u
  | .c _, _, h => by injection h
  | .agg _, _, h => by injection h
  | .tup _, _, h => by injection h
  | .fn _ _, _, h => by injection h
  | .ptr _ _ _, _, h => by injection h
  | .own _ _, _, h => by injection h
  | .eptr _ _ _, _, h => by injection h
  | .junk, _, h => by cases h
section
variable {P : Program} {F : Frm} {L : Tab} {ops : Array Oper} {K : AS → Prop} {τ : Nat → AV} {hp : List Blk} {N : Nat} {rest : List Oper} {op : Op} {ty : TypeId} {pos : String} {aft : Array Edge} {g : Nat} {b c : Bool} {d t : Tmp} {σ : AS}
theorem zNil (h : K σ) : AL P F ops K [] σ := al_nil h
theorem zOp (h : LO P F ⟨some t, op, ty, pos, aft, none⟩ (evT τ) hp fun v hp' => AL P F ops K rest ⟨upd N t v τ, hp', N⟩) : AL P F ops K (⟨some t, op, ty, pos, aft, none⟩ :: rest) ⟨τ, hp, N⟩ := x_op h
theorem zOpn (h : LO P F ⟨none, op, ty, pos, aft, none⟩ (evT τ) hp fun _ hp' => AL P F ops K rest ⟨τ, hp', N⟩) : AL P F ops K (⟨none, op, ty, pos, aft, none⟩ :: rest) ⟨τ, hp, N⟩ := x_opn h
theorem zYes (h : LO P F ⟨some t, op, ty, pos, aft, some (g, b)⟩ (evT τ) hp fun v hp' => AL P F ops K rest ⟨upd N t v τ, hp', N⟩) (hd : (ops[g]?).bind (·.dst) = some d := by exact rfl) (hv : τ d = .c (.lit (.bool c)) := by exact rfl) (hc : c = b := by first | exact rfl | assumption | exact neg_t (by assumption) | exact neg_f (by assumption)) :
    AL P F ops K (⟨some t, op, ty, pos, aft, some (g, b)⟩ :: rest) ⟨τ, hp, N⟩ := x_yes hd hv hc h
theorem zYesn (h : LO P F ⟨none, op, ty, pos, aft, some (g, b)⟩ (evT τ) hp fun _ hp' => AL P F ops K rest ⟨τ, hp', N⟩) (hd : (ops[g]?).bind (·.dst) = some d := by exact rfl) (hv : τ d = .c (.lit (.bool c)) := by exact rfl) (hc : c = b := by first | exact rfl | assumption | exact neg_t (by assumption) | exact neg_f (by assumption)) :
    AL P F ops K (⟨none, op, ty, pos, aft, some (g, b)⟩ :: rest) ⟨τ, hp, N⟩ := x_yesn hd hv hc h
theorem zNo (h : AL P F ops K rest ⟨upd N t (.c (.lit undef)) τ, hp, N⟩) (hd : (ops[g]?).bind (·.dst) = some d := by exact rfl) (hv : τ d = .c (.lit (.bool c)) := by exact rfl) (hc : c = !b := by first | exact rfl | assumption | exact neg_t (by assumption) | exact neg_f (by assumption)) :
    AL P F ops K (⟨some t, op, ty, pos, aft, some (g, b)⟩ :: rest) ⟨τ, hp, N⟩ := x_no hd hv hc h
theorem zNon (h : AL P F ops K rest ⟨τ, hp, N⟩) (hd : (ops[g]?).bind (·.dst) = some d := by exact rfl) (hv : τ d = .c (.lit (.bool c)) := by exact rfl) (hc : c = !b := by first | exact rfl | assumption | exact neg_t (by assumption) | exact neg_f (by assumption)) :
    AL P F ops K (⟨none, op, ty, pos, aft, some (g, b)⟩ :: rest) ⟨τ, hp, N⟩ := x_non hd hv hc h
theorem zUn (h : AL P F ops K rest ⟨upd N t (.c (.lit undef)) τ, hp, N⟩) (hd : (ops[g]?).bind (·.dst) = some d := by exact rfl) (hv : τ d = .c (.lit undef) := by exact rfl) : AL P F ops K (⟨some t, op, ty, pos, aft, some (g, b)⟩ :: rest) ⟨τ, hp, N⟩ := x_un hd hv h
theorem zUnn (h : AL P F ops K rest ⟨τ, hp, N⟩) (hd : (ops[g]?).bind (·.dst) = some d := by exact rfl) (hv : τ d = .c (.lit undef) := by exact rfl) : AL P F ops K (⟨none, op, ty, pos, aft, some (g, b)⟩ :: rest) ⟨τ, hp, N⟩ := x_unn hd hv h
end
section
variable {P : Program} {F : Frm} {L : Tab} {τ τ' : Nat → AV} {hp hp' : List Blk} {N : Nat} {Q : Exit → AS → Prop}
theorem zT {c : Operand} {x y : Code} {t : Bool} (h : AC P F x Q ⟨τ, hp, N⟩) (hc : evT τ c = .c (.lit (.bool t)) := by exact rfl) (ht : t = true := by first | exact rfl | assumption | exact neg_t (by assumption)) : AC P F (.cond c x y) Q ⟨τ, hp, N⟩ := x_t hc ht h
theorem zF {c : Operand} {x y : Code} {t : Bool} (h : AC P F y Q ⟨τ, hp, N⟩) (hc : evT τ c = .c (.lit (.bool t)) := by exact rfl) (ht : t = false := by first | exact rfl | assumption | exact neg_f (by assumption)) : AC P F (.cond c x y) Q ⟨τ, hp, N⟩ := x_f hc ht h
end
section
variable {P : Program} {F : Frm} {L : Tab} {d : Option Tmp} {ty : TypeId} {pos : String} {aft : Array Edge} {g : Option (Nat × Bool)} {ρ : Operand → AV} {hp : List Blk} {K : AV → List Blk → Prop}
theorem zkL {t : TypeId} {x : Operand} (h : LO P F ⟨d, .load t x, ty, pos, aft, g⟩ ρ hp K) : LO P F ⟨d, .load t x, ty, pos, aft, g⟩ ρ hp K := h
theorem zkF {t : TypeId} {x : Operand} {k : Nat} (h : LO P F ⟨d, .fieldAddr t x k, ty, pos, aft, g⟩ ρ hp K) : LO P F ⟨d, .fieldAddr t x k, ty, pos, aft, g⟩ ρ hp K := h
theorem zkB {o : BinOp} {t t' : TypeId} {x y : Operand} (h : LO P F ⟨d, .binOp o t x y t', ty, pos, aft, g⟩ ρ hp K) : LO P F ⟨d, .binOp o t x y t', ty, pos, aft, g⟩ ρ hp K := h
theorem zkI {b : Builtin} {xs : Array Operand} {ts : Array TypeId} (h : LO P F ⟨d, .call { callee := .builtin b, args := xs, argTypes := ts }, ty, pos, aft, g⟩ ρ hp K) : LO P F ⟨d, .call { callee := .builtin b, args := xs, argTypes := ts }, ty, pos, aft, g⟩ ρ hp K := h
theorem zM {x : Operand} {v : AV} (h : K v hp) (hv : fc (ρ x) = some v := by exact rfl) : LO P F ⟨d, .move x, ty, pos, aft, g⟩ ρ hp K := lo_move (fc_eq hv) h
theorem zA {x : Operand} {v : AV} (h : K v hp) (hv : fc (ρ x) = some v := by exact rfl) : LO P F ⟨d, .assign x, ty, pos, aft, g⟩ ρ hp K := lo_assign (fc_eq hv) h
theorem zPt {c x y : Operand} {v : AV} {b : Bool} (h : K v hp) (hc : ρ c = .c (.lit (.bool b)) := by exact rfl) (hb : b = true := by first | exact rfl | assumption | exact neg_t (by assumption)) (hv : fc (ρ x) = some v := by exact rfl) : LO P F ⟨d, .pick c x y, ty, pos, aft, g⟩ ρ hp K := v_pick_t hc hb (fc_eq hv) h
theorem zPf {c x y : Operand} {v : AV} {b : Bool} (h : K v hp) (hc : ρ c = .c (.lit (.bool b)) := by exact rfl) (hb : b = false := by first | exact rfl | assumption | exact neg_f (by assumption)) (hv : fc (ρ y) = some v := by exact rfl) : LO P F ⟨d, .pick c x y, ty, pos, aft, g⟩ ρ hp K := v_pick_f hc hb (fc_eq hv) h
theorem zE {x : Operand} {ts : List T} {k : Nat} {t : T} (h : K (.c t) hp) (hx : ρ x = .c (.tup ts) := by exact rfl) (hk : ts[k]? = some t := by exact rfl) : LO P F ⟨d, .extract x k, ty, pos, aft, g⟩ ρ hp K := lo_extract hx hk h
theorem zEA {x : Operand} {ts : List AV} {k : Nat} {t : AV} (h : K t hp) (hx : ρ x = .tup ts := by exact rfl) (hk : ts[k]? = some t := by exact rfl) : LO P F ⟨d, .extract x k, ty, pos, aft, g⟩ ρ hp K := lo_extractA hx hk h
theorem zAl {t : TypeId} {ti : TI} {cs : List AV} {n : Nat} {hp' : Nat → List Blk} (h : ∀ b, K (.ptr n b 0) (hp' b)) (hL : TabOk P L := by exact tok) (ht : L.look t = some ti := by exact rfl) (hz : evl (ti.zero.map fun v => AV.c (.lit v)) = some cs := by exact rfl) (hn : lenU hp = some n := by exact rfl) (hf : ∀ b, evl (hp ++ [.box b t cs]) = some (hp' b) := by exact fun _ => rfl) : LO P F ⟨d, .alloc t, ty, pos, aft, g⟩ ρ hp K := v_alloc hL ht hz hn hf h
theorem zBx {t : TypeId} {x : Operand} {v : AV} {cs : List AV} {n : Nat} {hp' : Nat → List Blk} (h : ∀ b, K (.ptr n b 0) (hp' b)) (hv : fc (ρ x) = some v := by exact rfl) (hc : evl (cellsA v) = some cs := by exact rfl) (h1 : allOne cs = true := by first | exact rfl | assumption) (hn : lenU hp = some n := by exact rfl) (hf : ∀ b, evl (hp ++ [.box b t cs]) = some (hp' b) := by exact fun _ => rfl) : LO P F ⟨d, .box t x, ty, pos, aft, g⟩ ρ hp K := v_box (fc_eq hv) hc h1 hn hf h
theorem zS {t : TypeId} {ti : TI} {x y : Operand} {i b off : Nat} {tb : TypeId} {cs vs cs' : List AV} {v : AV} {hp' : List Blk} (h : K (.c (.lit undef)) hp') (hL : TabOk P L := by exact tok) (hx : ρ x = .ptr i b off := by exact rfl) (hi : hp[i]? = some (.box b tb cs) := by exact rfl) (hv : fc (ρ y) = some v := by exact rfl) (ht : L.look t = some ti := by exact rfl) (hc : evl (cellsA v) = some vs := by exact rfl) (h1 : allOne vs = true := by first | exact rfl | assumption) (hl : lenU vs = some ti.size := by exact rfl) (hb : Nat.ble (off + ti.size) cs.length = true := by exact rfl) (hs : evl (spl cs off vs) = some cs' := by exact rfl) (hf : evl (hp.set i (.box b tb cs')) = some hp' := by exact rfl) :
    LO P F ⟨d, .store t x y, ty, pos, aft, g⟩ ρ hp K := v_store hL hx hi (fc_eq hv) ht hc h1 hl hb hs hf h
theorem zL1 {t : TypeId} {ti : TI} {x : Operand} {i b off : Nat} {tb : TypeId} {cs : List AV} {v : AV} (h : K v hp) (hL : TabOk P L := by exact tok) (hx : ρ x = .ptr i b off := by exact rfl) (hi : hp[i]? = some (.box b tb cs) := by exact rfl) (ht : L.look t = some ti := by exact rfl) (ha : ti.agg = false := by exact rfl) (hv : cs[off]? = some v := by exact rfl) : LO P F ⟨d, .load t x, ty, pos, aft, g⟩ ρ hp K := lo_load_box1 hL hx hi ht ha hv h
theorem zL2 {t : TypeId} {ti : TI} {x : Operand} {i b off : Nat} {tb : TypeId} {cs l : List AV} (h : K (.agg l) hp) (hL : TabOk P L := by exact tok) (hx : ρ x = .ptr i b off := by exact rfl) (hi : hp[i]? = some (.box b tb cs) := by exact rfl) (ht : L.look t = some ti := by exact rfl) (ha : ti.agg = true := by exact rfl) (hl : Nat.ble (off + ti.size) cs.length = true := by exact rfl) (he : evl ((cs.drop off).take ti.size) = some l := by exact rfl) : LO P F ⟨d, .load t x, ty, pos, aft, g⟩ ρ hp K := v_load_box hL hx hi ht ha hl he h
theorem zL3 {t : TypeId} {ti : TI} {x : Operand} {off : Nat} {cs : List T} {v : T} (h : K (.c v) hp) (hL : TabOk P L := by exact tok) (hx : ρ x = .c (.pin cs off) := by exact rfl) (ht : L.look t = some ti := by exact rfl) (ha : ti.agg = false := by exact rfl) (hv : cs[off]? = some v := by exact rfl) : LO P F ⟨d, .load t x, ty, pos, aft, g⟩ ρ hp K := lo_load_pin1 hL hx ht ha hv h
/-- the element of a row that came in; what it is must be told -/
theorem zEl {t : TypeId} {ti : TI} {x : Operand} {off : Nat} {cs ts : List T} (hts : (cs.drop off).take ti.size = ts) (hl : ts.length = ti.size) (h : K (.c (.agg ts)) hp) (hL : TabOk P L := by exact tok) (hx : ρ x = .c (.pin cs off) := by exact rfl) (ht : L.look t = some ti := by exact rfl) (ha : ti.agg = true := by exact rfl) : LO P F ⟨d, .load t x, ty, pos, aft, g⟩ ρ hp K := lo_load_pin hL hx ht ha hts hl h
theorem zLp {t : TypeId} {ti : TI} {x : Operand} {off : Nat} {cs ts : List T} (h : K (.c (.agg ts)) hp) (hL : TabOk P L := by exact tok) (hx : ρ x = .c (.pin cs off) := by exact rfl) (ht : L.look t = some ti := by exact rfl) (ha : ti.agg = true := by exact rfl) (hts : evl ((cs.drop off).take ti.size) = some ts := by exact rfl) (hl : lenU ts = some ti.size := by exact rfl) : LO P F ⟨d, .load t x, ty, pos, aft, g⟩ ρ hp K := lo_load_pin hL hx ht ha (evl_eq hts).symm (lenU_eq hl).symm h
theorem zEl1 {t : TypeId} {ti : TI} {x : Operand} {off : Nat} {cs : List T} {v : T} (hv : cs[off]? = some v) (h : K (.c v) hp) (hL : TabOk P L := by exact tok) (hx : ρ x = .c (.pin cs off) := by exact rfl) (ht : L.look t = some ti := by exact rfl) (ha : ti.agg = false := by exact rfl) : LO P F ⟨d, .load t x, ty, pos, aft, g⟩ ρ hp K := lo_load_pin1 hL hx ht ha hv h
theorem zIx {t el : TypeId} {ti te : TI} {x y : Operand} {n sz : Nat} {cs : List T} {k : IntKind} {z : Int} (j : Nat) (hj : j < n) (h : K (.c (.pin cs (j * sz))) hp) (hL : TabOk P L := by exact tok) (hx : ρ x = .c (.row n sz cs) := by exact rfl) (hy : ρ y = .c (.lit (.int k z)) := by exact rfl) (hz : z = (j : Int) := by exact rfl) (ht : L.look t = some ti := by exact rfl) (hd : ti.d = .slice el := by exact rfl) (hte : L.look el = some te := by exact rfl) (hsz : te.size = sz := by exact rfl) : LO P F ⟨d, .indexAddr t x y, ty, pos, aft, g⟩ ρ hp K := lo_idx hL j hx hy hz hj ht hd hte hsz h
theorem zF1 {s : TypeId} {ti : TI} {fs : List (Nat × Nat)} {k o sz : Nat} {x : Operand} {i b off : Nat} (h : K (.ptr i b (off + o)) hp) (hL : TabOk P L := by exact tok) (hx : ρ x = .ptr i b off := by exact rfl) (ht : L.look s = some ti := by exact rfl) (hd : ti.d = .struct fs := by exact rfl) (hk : fs[k]? = some (o, sz) := by exact rfl) (h0 : Nat.beq sz 0 = false := by exact rfl) : LO P F ⟨d, .fieldAddr s x k, ty, pos, aft, g⟩ ρ hp K := lo_fld hL hx ht hd hk h0 h
theorem zF2 {s : TypeId} {ti : TI} {fs : List (Nat × Nat)} {k o sz : Nat} {x : Operand} {cs : List T} {off : Nat} (h : K (.c (.pin cs (off + o))) hp) (hL : TabOk P L := by exact tok) (hx : ρ x = .c (.pin cs off) := by exact rfl) (ht : L.look s = some ti := by exact rfl) (hd : ti.d = .struct fs := by exact rfl) (hk : fs[k]? = some (o, sz) := by exact rfl) (h0 : Nat.beq sz 0 = false := by exact rfl) : LO P F ⟨d, .fieldAddr s x k, ty, pos, aft, g⟩ ρ hp K := lo_fld_pin hL hx ht hd hk h0 h
theorem zF3 {s : TypeId} {ti : TI} {fs : List (Nat × Nat)} {k o sz : Nat} {x : Operand} {i : Nat} {v : Value} {off : Nat} (h : K (.eptr i v (off + o)) hp) (hL : TabOk P L := by exact tok) (hx : ρ x = .eptr i v off := by exact rfl) (ht : L.look s = some ti := by exact rfl) (hd : ti.d = .struct fs := by exact rfl) (hk : fs[k]? = some (o, sz) := by exact rfl) (h0 : Nat.beq sz 0 = false := by exact rfl) : LO P F ⟨d, .fieldAddr s x k, ty, pos, aft, g⟩ ρ hp K := lo_fld_e hL hx ht hd hk h0 h
theorem zN1 {t el : TypeId} {ti : TI} {x : Operand} {n sz : Nat} {cs : List T} (h : n ≤ 9223372036854775807 → K (.c (.lit (.int .i64 n))) hp) (hL : TabOk P L := by exact tok) (hx : ρ x = .c (.row n sz cs) := by exact rfl) (ht : L.look t = some ti := by exact rfl) (hd : ti.d = .slice el := by exact rfl) : LO P F ⟨d, .call { callee := .builtin .len, args := #[x], argTypes := #[t] }, ty, pos, aft, g⟩ ρ hp K := lo_len hL hx ht hd h
theorem zN2 {t el : TypeId} {ti : TI} {x : Operand} {i n sz : Nat} {v : Value} {e' : TypeId} {cs : List T} (h : n ≤ 9223372036854775807 → K (.c (.lit (.int .i64 n))) hp) (hL : TabOk P L := by exact tok) (hx : ρ x = .own i v := by exact rfl) (hi : hp[i]? = some (.row v e' sz n cs) := by exact rfl) (ht : L.look t = some ti := by exact rfl) (hd : ti.d = .slice el := by exact rfl) : LO P F ⟨d, .call { callee := .builtin .len, args := #[x], argTypes := #[t] }, ty, pos, aft, g⟩ ρ hp K := lo_len_own hL hx hi ht hd h
theorem zN3 {t : TypeId} {ti : TI} {x : Operand} {s : ByteArray} (h : K (.c (.lit (.int .i64 s.size))) hp) (hL : TabOk P L := by exact tok) (hx : ρ x = .c (.lit (.string s)) := by exact rfl) (ht : L.look t = some ti := by exact rfl) (hd : ti.d = .string := by exact rfl) : LO P F ⟨d, .call { callee := .builtin .len, args := #[x], argTypes := #[t] }, ty, pos, aft, g⟩ ρ hp K := lo_len_str hL hx ht hd h
theorem zN4 {t el : TypeId} {ti : TI} {x : Operand} (h : K (.c (.lit (.int .i64 0))) hp) (hL : TabOk P L := by exact tok) (hx : ρ x = .c (.lit (.slice none 0 0)) := by exact rfl) (ht : L.look t = some ti := by exact rfl) (hd : ti.d = .slice el := by exact rfl) : LO P F ⟨d, .call { callee := .builtin .len, args := #[x], argTypes := #[t] }, ty, pos, aft, g⟩ ρ hp K := lo_len_nil hL hx ht hd h
theorem zAp {t el : TypeId} {ti te : TI} {x y : Operand} {i n m sz : Nat} {v : Value} {cs ts : List T} {hp' : Value → List Blk} (h : ∀ v', K (.own i v') (hp' v')) (hL : TabOk P L := by exact tok) (hx : ρ x = .own i v := by exact rfl) (hi : hp[i]? = some (.row v el sz n cs) := by exact rfl) (hy : ρ y = .c (.row m sz ts) := by exact rfl) (ht : L.look t = some ti := by exact rfl) (hd : ti.d = .slice el := by exact rfl) (hte : L.look el = some te := by exact rfl) (hsz : te.size = sz := by exact rfl) (hf : ∀ v', evl (hp.set i (.row v' el sz (n + m) (cs ++ ts))) = some (hp' v') := by exact fun _ => rfl)
    (h63 : n + m ≤ maxLen := by first | (simp only [maxLen]; omega) | (simp only [maxLen]; dsimp only at *; omega)) (hbytes : (n + m) * te.bytes ≤ 140737488355328 := by first | (simp only []; omega) | (dsimp only at *; omega)) : LO P F ⟨d, .call { callee := .builtin .append, args := #[x, y], argTypes := #[t, t] }, ty, pos, aft, g⟩ ρ hp K := v_app hL hx hi hy ht hd hte hsz hf h63 hbytes h
theorem zBd {t : TypeId} {ti : TI} {fs : List (Nat × Nat)} {parts : List (Nat × Operand)} {cs cs' : List AV} (h : K (.agg cs') hp) (hL : TabOk P L := by exact tok) (ht : L.look t = some ti := by exact rfl) (hd : ti.d = .struct fs := by exact rfl) (hf : fillA (fun i => fs[i]?) (ti.zero.map fun v => .c (.lit v)) (parts.map fun p => (p.1, ρ p.2)) = some cs := by exact rfl) (he : evl cs = some cs' := by exact rfl) : LO P F ⟨d, .build t parts.toArray, ty, pos, aft, g⟩ ρ hp K := v_build hL ht hd hf he h
theorem zBs {t el : TypeId} {ti te : TI} {n : Nat} {parts : List (Nat × Operand)} {cs cs' : List AV} {ts : List T} (h : K (.c (.row n te.size ts)) hp) (hL : TabOk P L := by exact tok) (ht : L.look t = some ti := by exact rfl) (hd : ti.d = .slice el := by exact rfl) (hte : L.look el = some te := by exact rfl) (h0 : Nat.ble 1 te.size = true := by exact rfl) (hn : Nat.ble (n * te.size) 16777216 = true := by exact rfl)
    (hf : fillA (fun i => some (i * te.size, te.size)) ((List.range (n * te.size)).map fun j => .c (.lit (te.zero.getD (j % te.size) undef))) (parts.map fun p => (p.1, ρ p.2)) = some cs := by exact rfl) (he : evl cs = some cs' := by exact rfl) (hz : Rzs [] cs' ts := by repeat (first | exact rzs_nil | apply rzs_cons | exact rz_c | exact rz_nil rfl | apply rz_agg | exact rz_own rfl | apply rz_fn | exact rz_ptr rfl | apply rz_tup)) : LO P F ⟨d, .buildSlice t n parts.toArray, ty, pos, aft, g⟩ ρ hp K := v_bslice hL ht hd hte h0 hn hf he hz h
theorem zFn {f : Fn} {cap : List Operand} {l : List AV} (h : K (.fn f l) hp) (he : evl (cap.map ρ) = some l := by exact rfl) : LO P F ⟨d, .makeFunc f #[] cap.toArray, ty, pos, aft, g⟩ ρ hp K := v_func he h
theorem zCall {f : FuncId} {y : Operand} {xs : List Operand} {ats : Array TypeId} {ts : List T} {R : T → Prop} {cap : List AV} (hc : AF P f ts R) (h : ∀ r, R r → K (.c r) hp) (hy : ρ y = .fn (.func f) cap := by exact rfl) (hx : Rzs [] (xs.map ρ ++ cap) ts := by repeat (first | exact rzs_nil | apply rzs_cons | exact rz_c | exact rz_nil rfl | apply rz_agg | exact rz_own rfl | apply rz_fn | exact rz_ptr rfl | apply rz_tup)) : LO P F ⟨d, .call { callee := .value y, args := xs.toArray, argTypes := ats }, ty, pos, aft, g⟩ ρ hp K := lo_call hc hy hx h
variable {t t' : TypeId} {x y : Operand} {k : IntKind} {a b : Int} {s s' : ByteArray}
theorem zInc {n : Nat} (h : K (.c (.lit (.int .i64 ((n + 1 : Nat) : Int)))) hp) (hx : ρ x = .c (.lit (.int .i64 n)) := by exact rfl) (hy : ρ y = .c (.lit (.int .i64 1)) := by exact rfl) (hb : n < 9223372036854775807 := by first | omega | (dsimp only at *; omega)) : LO P F ⟨d, .binOp .add t x y t', ty, pos, aft, g⟩ ρ hp K := lo_inc hx hy hb h
theorem zNot {c : Bool} (h : K (.c (.lit (.bool !c))) hp) (hx : ρ x = .c (.lit (.bool c)) := by exact rfl) : LO P F ⟨d, .unOp .not t x, ty, pos, aft, g⟩ ρ hp K := lo_not hx h
theorem zC1 (h : K (.c (.lit (.bool (decide (a < b))))) hp) (hx : ρ x = .c (.lit (.int k a)) := by exact rfl) (hy : ρ y = .c (.lit (.int k b)) := by exact rfl) : LO P F ⟨d, .binOp .lss t x y t', ty, pos, aft, g⟩ ρ hp K := lo_lss hx hy h
theorem zC2 (h : K (.c (.lit (.bool (decide (a ≤ b))))) hp) (hx : ρ x = .c (.lit (.int k a)) := by exact rfl) (hy : ρ y = .c (.lit (.int k b)) := by exact rfl) : LO P F ⟨d, .binOp .leq t x y t', ty, pos, aft, g⟩ ρ hp K := lo_leq hx hy h
theorem zC3 (h : K (.c (.lit (.bool (decide (b < a))))) hp) (hx : ρ x = .c (.lit (.int k a)) := by exact rfl) (hy : ρ y = .c (.lit (.int k b)) := by exact rfl) : LO P F ⟨d, .binOp .gtr t x y t', ty, pos, aft, g⟩ ρ hp K := lo_gtr hx hy h
theorem zC4 (h : K (.c (.lit (.bool (decide (b ≤ a))))) hp) (hx : ρ x = .c (.lit (.int k a)) := by exact rfl) (hy : ρ y = .c (.lit (.int k b)) := by exact rfl) : LO P F ⟨d, .binOp .geq t x y t', ty, pos, aft, g⟩ ρ hp K := lo_geq hx hy h
theorem zC5 (h : K (.c (.lit (.bool (decide (a = b))))) hp) (hx : ρ x = .c (.lit (.int k a)) := by exact rfl) (hy : ρ y = .c (.lit (.int k b)) := by exact rfl) : LO P F ⟨d, .binOp .eql t x y t', ty, pos, aft, g⟩ ρ hp K := lo_eql hx hy h
theorem zC6 (h : K (.c (.lit (.bool (!decide (a = b))))) hp) (hx : ρ x = .c (.lit (.int k a)) := by exact rfl) (hy : ρ y = .c (.lit (.int k b)) := by exact rfl) : LO P F ⟨d, .binOp .neq t x y t', ty, pos, aft, g⟩ ρ hp K := lo_neq hx hy h
theorem zS1 (h : K (.c (.lit (.bool (strLt s s')))) hp) (hx : ρ x = .c (.lit (.string s)) := by exact rfl) (hy : ρ y = .c (.lit (.string s')) := by exact rfl) : LO P F ⟨d, .binOp .lss t x y t', ty, pos, aft, g⟩ ρ hp K := lo_lts hx hy h
theorem zS2 (h : K (.c (.lit (.bool (strLt s s' || decide (s = s'))))) hp) (hx : ρ x = .c (.lit (.string s)) := by exact rfl) (hy : ρ y = .c (.lit (.string s')) := by exact rfl) : LO P F ⟨d, .binOp .leq t x y t', ty, pos, aft, g⟩ ρ hp K := lo_les hx hy h
theorem zS3 (h : K (.c (.lit (.bool (!(strLt s s' || decide (s = s')))))) hp) (hx : ρ x = .c (.lit (.string s)) := by exact rfl) (hy : ρ y = .c (.lit (.string s')) := by exact rfl) : LO P F ⟨d, .binOp .gtr t x y t', ty, pos, aft, g⟩ ρ hp K := lo_gts hx hy h
theorem zS4 (h : K (.c (.lit (.bool (!strLt s s')))) hp) (hx : ρ x = .c (.lit (.string s)) := by exact rfl) (hy : ρ y = .c (.lit (.string s')) := by exact rfl) : LO P F ⟨d, .binOp .geq t x y t', ty, pos, aft, g⟩ ρ hp K := lo_ges hx hy h
theorem zS5 (h : K (.c (.lit (.bool (decide (s = s'))))) hp) (hx : ρ x = .c (.lit (.string s)) := by exact rfl) (hy : ρ y = .c (.lit (.string s')) := by exact rfl) : LO P F ⟨d, .binOp .eql t x y t', ty, pos, aft, g⟩ ρ hp K := lo_eqs hx hy h
theorem zS6 (h : K (.c (.lit (.bool (!decide (s = s'))))) hp) (hx : ρ x = .c (.lit (.string s)) := by exact rfl) (hy : ρ y = .c (.lit (.string s')) := by exact rfl) : LO P F ⟨d, .binOp .neq t x y t', ty, pos, aft, g⟩ ρ hp K := lo_nes hx hy h
end
section
variable {L : Tab} {σ : AS} {res : List ResultVar} {R : T → Prop} {ts : List T}
theorem zR (hR : R (outT ts)) (h : Outs L σ res ts := by repeat (first | exact outs_nil | apply outs_cons | (apply out_tmp (v := .c _); (focus exact rfl)) | (apply out_tmp (v := .own _ _); (focus exact rfl)) | (apply out_tmp (v := .agg _); (focus exact rfl)) | (apply out_tmp (v := .ptr _ _ _); (focus exact rfl)) | (apply out_tmp (v := .fn _ _); (focus exact rfl)) | (apply out_agg; (focus exact rfl); (focus exact rfl); (focus exact rfl); (focus exact rfl); (focus exact rfl); (focus exact rfl)) | (apply out_one; (focus exact rfl); (focus exact rfl); (focus exact rfl); (focus exact rfl); (focus exact rfl)) | exact rzs_nil | apply rzs_cons | exact rz_c | exact rz_nil rfl | apply rz_agg | exact rz_own rfl | apply rz_fn | exact rz_ptr rfl | apply rz_tup)) : Fin L res R .ret σ := fin_r h hR
theorem zQ (hR : R (outT ts)) (h : Outs L σ res ts := by repeat (first | exact outs_nil | apply outs_cons | (apply out_tmp (v := .c _); (focus exact rfl)) | (apply out_tmp (v := .own _ _); (focus exact rfl)) | (apply out_tmp (v := .agg _); (focus exact rfl)) | (apply out_tmp (v := .ptr _ _ _); (focus exact rfl)) | (apply out_tmp (v := .fn _ _); (focus exact rfl)) | (apply out_agg; (focus exact rfl); (focus exact rfl); (focus exact rfl); (focus exact rfl); (focus exact rfl); (focus exact rfl)) | (apply out_one; (focus exact rfl); (focus exact rfl); (focus exact rfl); (focus exact rfl); (focus exact rfl)) | exact rzs_nil | apply rzs_cons | exact rz_c | exact rz_nil rfl | apply rz_agg | exact rz_own rfl | apply rz_fn | exact rz_ptr rfl | apply rz_tup)) : Fin L res R .normal σ := fin_n h hR
end
end Go.Proofs.YtadlmkgeplnemaaDoor
namespace Go.Proofs.YtadlmkgeplnemaaDoor
open Go.RowKit
section
variable {P : Program} {F : Frm} {L : Tab} {d : Option Tmp} {ty : TypeId} {pos : String} {aft : Array Edge} {g : Option (Nat × Bool)} {ρ : Operand → AV} {hp : List Blk} {K : AV → List Blk → Prop}
theorem RTs.set {M : Mm} : ∀ {ts : List T} {xs : List Value} (k : Nat) {t : T} {x : Value}, RTs M ts xs → RT M t x → RTs M (ts.set k t) (xs.set k x)
  | [], _, _, _, _, h, _ => by simp only [RTs] at h; subst h; simp [RTs]
  | a :: ts, _, 0, _, _, h, ht => by
    simp only [RTs] at h
    obtain ⟨x, r, rfl, h1, h2⟩ := h
    simp only [List.set_cons_zero, RTs]
    exact ⟨_, _, rfl, ht, h2⟩
  | a :: ts, _, k + 1, _, _, h, ht => by
    simp only [RTs] at h
    obtain ⟨x, r, rfl, h1, h2⟩ := h
    simp only [List.set_cons_succ, RTs]
    exact ⟨_, _, rfl, h1, RTs.set k h2 ht⟩
theorem RTs.spl {M : Mm} : ∀ {vs cs : List T} {us xs : List Value} {k : Nat}, RTs M cs xs → RTs M vs us → RTs M (spl cs k vs) (Go.Proofs.YtadlmkgeplnemaaDoor.spl xs k us)
  | [], _, _, _, _, h, h' => by simp only [RTs] at h'; subst h'; exact h
  | v :: vs, cs, _, xs, k, h, h' => by
    simp only [RTs] at h'
    obtain ⟨x, r, rfl, h1, h2⟩ := h'
    exact RTs.spl (vs := vs) (cs := cs.set k v) (us := r) (xs := xs.set k x) (k := k + 1) (RTs.set k h h1) h2
end
section
variable {P : Program} {F : Frm} {L : Tab}
def OutA (L : Tab) (σ : AS) : ResultVar → AV → Prop
  | .tmp i, v => σ.tmps i = v
  | .cell a ty, v => ∃ i b off tb cs ti, σ.tmps a = .ptr i b off ∧ σ.hp[i]? = some (.box b tb cs) ∧ L.look ty = some ti ∧
      (match ti.agg with | true => off + ti.size ≤ cs.length ∧ v = .agg ((cs.drop off).take ti.size) | false => cs[off]? = some v)
def OutsA (L : Tab) (σ : AS) : List ResultVar → List AV → Prop
  | [], vs => vs = []
  | r :: rs, vs => ∃ v vs', vs = v :: vs' ∧ OutA L σ r v ∧ OutsA L σ rs vs'
def outA : List AV → AV
  | [v] => v
  | vs => .tup vs
structure FinA (L : Tab) (res : List ResultVar) (K : AV → List Blk → Prop) (e : Exit) (σ : AS) : Prop where
  out : (e = .normal ∨ e = .ret) ∧ ∃ vs, OutsA L σ res vs ∧ K (outA vs) σ.hp
theorem outA_sound {M : Mm} {σ : AS} {a : Act} {w : World} (hL : TabOk P L) (hr : Rep F M σ a w) {r : ResultVar} {v : AV} (ho : OutA L σ r v) :
    ∃ u, ((match r with | .tmp t => pure (a.tmps.getD t undef) | .cell a' t => do loadVar t (← asAddr (a.tmps.getD a' undef))) : Sem Value).run P w = .ok u w ∧ RA M v u := by
  cases r with
  | tmp i => exact ⟨_, rfl, by rw [← (show σ.tmps i = v from ho)]; exact hr.tmps i⟩
  | cell x ty =>
    obtain ⟨i, b, off, tb, cs, ti, h1, h2, h3, h4⟩ := ho
    have hv := hr.tmps x
    rw [h1] at hv
    simp only [RA] at hv
    simp only [hv, asAddr, Sem.run_bind, Sem.run_pure, Result.andThen_ok]
    cases hag : ti.agg with
    | true =>
      rw [hag] at h4
      obtain ⟨u, hu, hra⟩ := load_box hL hr.heap h2 h3 hag h4.1
      exact ⟨u, hu, by rw [h4.2]; exact hra⟩
    | false =>
      rw [hag] at h4
      exact load_box1 hL hr.heap h2 h3 hag h4
theorem outsA_sound {M : Mm} {σ : AS} {a : Act} {w : World} (hL : TabOk P L) (hr : Rep F M σ a w) : ∀ {rs : List ResultVar} {vs : List AV}, OutsA L σ rs vs →
    ∃ us, (rs.mapM fun r => ((match r with | .tmp t => pure (a.tmps.getD t undef) | .cell a' t => do loadVar t (← asAddr (a.tmps.getD a' undef))) : Sem Value)).run P w = .ok us w ∧ RAs M vs us
  | [], vs, ho => by
    simp only [OutsA] at ho
    subst ho
    exact ⟨[], rfl, by simp only [RAs]⟩
  | r :: rs, vs, ho => by
    simp only [OutsA] at ho
    obtain ⟨v, vs', rfl, h1, h2⟩ := ho
    obtain ⟨u, hu, hu'⟩ := outA_sound hL hr h1
    obtain ⟨us, hus, hus'⟩ := outsA_sound hL hr h2
    refine ⟨u :: us, ?_, by simp only [RAs]; exact ⟨u, us, rfl, hu', hus'⟩⟩
    simp only [List.mapM_cons, Sem.run_bind, hu, Result.andThen_ok, hus, Sem.run_pure]
theorem resultsA_sound {M : Mm} {σ : AS} {a : Act} {w : World} (hL : TabOk P L) (hr : Rep F M σ a w) {fn : Func} {vs : List AV} (ho : OutsA L σ fn.results.toList vs) :
    ∃ u, (results fn a.tmps).run P w = .ok u w ∧ RA M (outA vs) u := by
  obtain ⟨us, hus, hr⟩ := outsA_sound hL hr ho
  have hlen := hr.len
  have hm : (fn.results.mapM fun r => ((match r with | .tmp t => pure (a.tmps.getD t undef) | .cell a' t => do loadVar t (← asAddr (a.tmps.getD a' undef))) : Sem Value)).run P w = .ok us.toArray w := by
    rw [Array.mapM_eq_mapM_toList]
    rw [Sem.run_map, hus]
    rfl
  refine ⟨if h : us.toArray.size = 1 then us.toArray[0] else .tuple us.toArray, ?_, ?_⟩
  · unfold results
    simp only [Sem.run_bind, Sem.run_pure]
    erw [hm]
    rfl
  · match vs, us, hlen, hr with
    | [], [], _, hr => simp only [outA, RA]; exact ⟨[], by simp, hr⟩
    | [t], [u], _, hr =>
      simp only [RAs] at hr
      obtain ⟨x, r, e, h1, _⟩ := hr
      injection e with e _
      subst e
      simpa [outA] using h1
    | t1 :: t2 :: ts, u1 :: u2 :: us, _, hr => simp only [outA, RA]; exact ⟨u1 :: u2 :: us, by simp, hr⟩
def fcs : List AV → Option (List AV)
  | [] => some []
  | a :: l => match fc a, fcs l with | some a', some l' => some (a' :: l') | _, _ => none
theorem fcs_eq : ∀ {l r : List AV}, fcs l = some r → l = r
  | [], r, h => by simp only [fcs, Option.some.injEq] at h; exact h
  | a :: l, r, h => by
    simp only [fcs] at h
    cases ha : fc a with
    | none => rw [ha] at h; cases h
    | some a' =>
      cases hl : fcs l with
      | none => rw [ha, hl] at h; cases h
      | some l' =>
        rw [ha, hl] at h
        simp only [Option.some.injEq] at h
        rw [← h, fc_eq ha, fcs_eq hl]
theorem v_inl {d : Option Tmp} {ty : TypeId} {pos : String} {aft : Array Edge} {g : Option (Nat × Bool)} {ρ : Operand → AV} {hp : List Blk} {K : AV → List Blk → Prop} {f : FuncId} {fn : Func} {c : Code} {N : Nat} {res : List ResultVar} {y : Operand} {xs : List Operand} {ats : Array TypeId} {cap asq : List AV}
    (hf : P.funcs[f]? = some fn) (hNt : fn.ntmps = N) (hres : fn.results = res.toArray) (hb : fn.body = some c) (hn : (fn.name == "runtime.NumGoroutine") = false) (hL : TabOk P L) (hy : ρ y = .fn (.func f) cap) (ha : fcs (xs.map ρ ++ cap) = some asq) (hN : Nat.ble asq.length N = true)
    (h : ∀ M0 : Mm, AC P ⟨F.w0, F.X, M0, F.G, F.GX⟩ c (FinA L res K) ⟨initT N asq, hp, N⟩) : LO P F ⟨d, .call { callee := .value y, args := xs.toArray, argTypes := ats }, ty, pos, aft, g⟩ ρ hp K := by
  refine ⟨fun M e w he hh => ?_⟩
  have h1 := he y (by simp [Op.operands, Call.operands])
  rw [hy] at h1
  simp only [RA] at h1
  obtain ⟨cs, hu, hcs⟩ := h1
  rw [run_call ⟨fn, hf, hn, by rw [hb]; rfl⟩ hu]
  have hav := (ev_all xs (fun x hx => he x (by simp [Op.operands, Call.operands, hx]))).app hcs
  rw [fcs_eq ha] at hav
  have hlen := hav.len
  have hNl := Nat.le_of_ble_eq_true hN
  generalize xs.map e ++ cs = vs at *
  refine calls_of_wp hf hb (wp_mono ((h M).out M _ w ⟨?_, ?_, rfl, ⟨hh.mem, Ext.refl _ _, ⟨hh.frm.os, hh.frm.tape, hh.frm.output, hh.frm.size, hh.frm.block⟩, hh.at_, hh.sep, hh.out⟩⟩) ?_)
  · intro i
    simp only [initT]
    by_cases hi : i < asq.length
    · have : Nat.blt i N = true := Nat.ble_eq_true_of_le (by omega)
      rw [this, cond_true]
      have h1 : asq[i]? = some asq[i] := List.getElem?_eq_getElem hi
      obtain ⟨x, hx, hra⟩ := hav.get h1
      rw [List.getD_eq_getElem?_getD, h1]
      have h2 : i < vs.length := by omega
      have h3 : vs[i] = x := by rw [List.getElem?_eq_getElem h2] at hx; injection hx
      simp [Array.getD_eq_getD_getElem?, Array.getElem?_append, h2, h3]
      exact hra
    · have h1 : asq.getD i (.c (.lit undef)) = .c (.lit undef) := by
        rw [List.getD_eq_getElem?_getD, List.getElem?_eq_none (by omega)]; rfl
      rw [h1]
      have h2 : ¬ i < vs.length := by omega
      have h3 : (vs.toArray ++ Array.replicate (fn.ntmps - vs.toArray.size) undef).getD i undef = undef := by
        simp [Array.getD_eq_getD_getElem?, Array.getElem?_append, h2, Array.getElem?_replicate]
        split <;> rfl
      rw [h3]
      cases Nat.blt i N <;> simp only [cond_true, cond_false, RA, RT]
  · simp [hNt]; omega
  · rintro e' a' w' ⟨M', σ', ⟨⟨he', vs', ho, hK⟩⟩, hr⟩
    rw [show res = fn.results.toList by rw [hres]] at ho
    obtain ⟨u, hu', hRA⟩ := resultsA_sound hL hr ho
    have hx : Ext F.may M M' := hr.heap.ext
    have hh' : HeapOk F M' σ'.hp w' := ⟨hr.heap.mem, hh.ext.trans hx, ⟨hr.heap.frm.os, hr.heap.frm.tape, hr.heap.frm.output, hr.heap.frm.size, hr.heap.frm.block⟩, hr.heap.at_, hr.heap.sep, hr.heap.out⟩
    have hfin : a'.defers = [] ∧ ∃ v, (results fn a'.tmps).run P w' = .ok v w' ∧ ∃ v', Ending.returned v = .returned v' ∧ ∃ M' v'' hp', K v'' hp' ∧ Ext F.may M M' ∧ HeapOk F M' hp' w' ∧ RA M' v'' v' :=
      ⟨hr.defers, u, hu', u, rfl, M', outA vs', σ'.hp, hK, hx, hh', hRA⟩
    rcases he' with rfl | rfl <;> exact hfin
end
end Go.Proofs.YtadlmkgeplnemaaDoor
namespace Go.Proofs.YtadlmkgeplnemaaDoor
open Go.RowKit
section
variable {P : Program} {F : Frm} {ops : Array Oper} {md : Region.Mode} {N : Nat} {cls : Nat → Nat}
theorem WO.mono {K K' : (Nat → AV) → List Blk → Prop} : ∀ (r : List Nat) {τ : Nat → AV} {hp : List Blk}, (∀ τ hp, K τ hp → K' τ hp) → WO P F ops N cls K r τ hp → WO P F ops N cls K' r τ hp
  | [], τ, hp, h, hw => h τ hp hw
  | _ :: r, _, _, h, hw => opA_mono (fun _ _ h' => WO.mono r h h') hw
end
section
variable {P : Program} {F : Frm} {L : Tab} {d : Option Tmp} {ty : TypeId} {pos : String} {aft : Array Edge} {g : Option (Nat × Bool)} {ρ : Operand → AV} {hp : List Blk} {K : AV → List Blk → Prop}
theorem zFinA {res : List ResultVar} {σ : AS} {e : Exit} {vs : List AV} (h : K (outA vs) σ.hp) (he : e = .normal ∨ e = .ret := by first | exact .inl rfl | exact .inr rfl) (ho : OutsA L σ res vs := by exact rfl) : FinA L res K e σ := ⟨he, vs, ho, h⟩
end
end Go.Proofs.YtadlmkgeplnemaaDoor
namespace Go.Proofs.YtadlmkgeplnemaaDoor
open Go.RowKit
section
variable {P : Program} {F : Frm} {L : Tab} {d : Option Tmp} {ty : TypeId} {pos : String} {aft : Array Edge} {g : Option (Nat × Bool)} {ρ : Operand → AV} {hp : List Blk} {K : AV → List Blk → Prop}
theorem zSub {t t' : TypeId} {x y : Operand} {a b : Int} (h : K (.c (.lit (.int .i64 (a - b)))) hp) (hx : ρ x = .c (.lit (.int .i64 a)) := by exact rfl) (hy : ρ y = .c (.lit (.int .i64 b)) := by exact rfl) (hr : -9223372036854775808 ≤ a - b ∧ a - b ≤ 9223372036854775807 := by first | omega | (dsimp only at *; omega)) : LO P F ⟨d, .binOp .sub t x y t', ty, pos, aft, g⟩ ρ hp K :=
  lo_sub hx hy (IntWalk.i64_in _ hr) h
end
def strTs (s : ByteArray) : List T := [.lit (.string s)]
def strRow (l : List ByteArray) : T := .row l.length 1 (l.flatMap strTs)
end Go.Proofs.YtadlmkgeplnemaaDoor
namespace Go.Proofs.YtadlmkgeplnemaaDoor
open Go.RowKit
def isPtr (P : Program) (t : TypeId) : Bool := match P.underlying t with | some (.pointer _) => true | _ => false
theorem isPtr_eq {P : Program} {t : TypeId} (h : isPtr P t = true) : ∃ e, P.underlying t = some (.pointer e) := by
  unfold isPtr at h
  split at h
  · exact ⟨_, by assumption⟩
  · cases h
theorem run_nil {P : Program} {t : TypeId} (h : isPtr P t = true) (a : Option Addr) (w : World) : (Op.equal t (.pointer a) (.pointer none)).run P w = .ok a.isNone w := by
  obtain ⟨e, he⟩ := isPtr_eq h
  rw [Op.equal, show Op.maxDepth = 9999 + 1 from rfl, Op.equalIn]
  simp only [Sem.run_bind, run_underlying he, Result.andThen_ok]
  cases a <;> rfl
theorem guard_ptr {P : Program} {op : BinOp} {t : TypeId} {x y : Operand} {a b : Option Addr} (w : World) : (eqGuard op t x y (.pointer a) (.pointer b)).run P w = .ok () w := by
  unfold eqGuard; simp
section
variable {P : Program} {F : Frm} {L : Tab} {d : Option Tmp} {ty : TypeId} {pos : String} {aft : Array Edge} {g : Option (Nat × Bool)} {ρ : Operand → AV} {hp : List Blk} {K : AV → List Blk → Prop}
theorem lo_nil {t t' : TypeId} {x y : Operand} {v : AV} {c : Bool} (hx : ρ x = v) (hv : ∀ M u, RA M v u → ∃ a : Option Addr, u = .pointer a ∧ a.isNone = c) (hy : ρ y = .c (.lit (.pointer none))) (hu : isPtr P t = true) (h : K (.c (.lit (.bool c))) hp) : LO P F ⟨d, .binOp .eql t x y t', ty, pos, aft, g⟩ ρ hp K := by
  refine LO.same (fun M e w he hh => ?_) h
  have h1 := he x (by first | (simp [Op.operands]; done) | simp [Op.operands, Call.operands])
  rw [hx] at h1
  obtain ⟨a, ha, hc⟩ := hv M _ h1
  have h2 := he y (by first | (simp [Op.operands]; done) | simp [Op.operands, Call.operands])
  rw [hy] at h2
  simp only [RA, RT] at h2
  refine ⟨.bool c, ?_, by simp only [RA, RT]⟩
  simp [execOp, ha, h2, guard_ptr, binOp, run_nil hu, hc]
theorem lo_nnil {t t' : TypeId} {x y : Operand} {v : AV} {c : Bool} (hx : ρ x = v) (hv : ∀ M u, RA M v u → ∃ a : Option Addr, u = .pointer a ∧ a.isNone = c) (hy : ρ y = .c (.lit (.pointer none))) (hu : isPtr P t = true) (h : K (.c (.lit (.bool (!c)))) hp) : LO P F ⟨d, .binOp .neq t x y t', ty, pos, aft, g⟩ ρ hp K := by
  refine LO.same (fun M e w he hh => ?_) h
  have h1 := he x (by first | (simp [Op.operands]; done) | simp [Op.operands, Call.operands])
  rw [hx] at h1
  obtain ⟨a, ha, hc⟩ := hv M _ h1
  have h2 := he y (by first | (simp [Op.operands]; done) | simp [Op.operands, Call.operands])
  rw [hy] at h2
  simp only [RA, RT] at h2
  refine ⟨.bool (!c), ?_, by simp only [RA, RT]⟩
  simp [execOp, ha, h2, guard_ptr, binOp, run_nil hu, hc]
theorem pin_some (cs : List T) (off : Nat) (M : Mm) (u : Value) (h : RA M (.c (.pin cs off)) u) : ∃ a : Option Addr, u = .pointer a ∧ a.isNone = false := by
  simp only [RA, RT] at h
  obtain ⟨ad, xs, rfl, _⟩ := h
  exact ⟨_, rfl, rfl⟩
theorem nil_none (M : Mm) (u : Value) (h : RA M (.c (.lit (.pointer none))) u) : ∃ a : Option Addr, u = .pointer a ∧ a.isNone = true := by
  simp only [RA, RT] at h
  exact ⟨_, h, rfl⟩
theorem ptr_some (i b off : Nat) (M : Mm) (u : Value) (h : RA M (.ptr i b off) u) : ∃ a : Option Addr, u = .pointer a ∧ a.isNone = false := by
  simp only [RA] at h
  exact ⟨_, h, rfl⟩
variable {t t' : TypeId} {x y : Operand} {cs : List T} {off i b : Nat}
theorem zQ1 (h : K (.c (.lit (.bool false))) hp) (hx : ρ x = .c (.pin cs off) := by exact rfl) (hy : ρ y = .c (.lit (.pointer none)) := by exact rfl) (hu : isPtr P t = true := by kernel_rfl) : LO P F ⟨d, .binOp .eql t x y t', ty, pos, aft, g⟩ ρ hp K := lo_nil hx (pin_some cs off) hy hu h
theorem zQ2 (h : K (.c (.lit (.bool true))) hp) (hx : ρ x = .c (.lit (.pointer none)) := by exact rfl) (hy : ρ y = .c (.lit (.pointer none)) := by exact rfl) (hu : isPtr P t = true := by kernel_rfl) : LO P F ⟨d, .binOp .eql t x y t', ty, pos, aft, g⟩ ρ hp K := lo_nil hx nil_none hy hu h
theorem zQ3 (h : K (.c (.lit (.bool false))) hp) (hx : ρ x = .ptr i b off := by exact rfl) (hy : ρ y = .c (.lit (.pointer none)) := by exact rfl) (hu : isPtr P t = true := by kernel_rfl) : LO P F ⟨d, .binOp .eql t x y t', ty, pos, aft, g⟩ ρ hp K := lo_nil hx (ptr_some i b off) hy hu h
theorem zQ4 (h : K (.c (.lit (.bool true))) hp) (hx : ρ x = .c (.pin cs off) := by exact rfl) (hy : ρ y = .c (.lit (.pointer none)) := by exact rfl) (hu : isPtr P t = true := by kernel_rfl) : LO P F ⟨d, .binOp .neq t x y t', ty, pos, aft, g⟩ ρ hp K := lo_nnil hx (pin_some cs off) hy hu h
theorem zQ5 (h : K (.c (.lit (.bool false))) hp) (hx : ρ x = .c (.lit (.pointer none)) := by exact rfl) (hy : ρ y = .c (.lit (.pointer none)) := by exact rfl) (hu : isPtr P t = true := by kernel_rfl) : LO P F ⟨d, .binOp .neq t x y t', ty, pos, aft, g⟩ ρ hp K := lo_nnil hx nil_none hy hu h
theorem zQ6 (h : K (.c (.lit (.bool true))) hp) (hx : ρ x = .ptr i b off := by exact rfl) (hy : ρ y = .c (.lit (.pointer none)) := by exact rfl) (hu : isPtr P t = true := by kernel_rfl) : LO P F ⟨d, .binOp .neq t x y t', ty, pos, aft, g⟩ ρ hp K := lo_nnil hx (ptr_some i b off) hy hu h
theorem lo_nck {v : AV} (hx : ρ x = v) (hv : ∀ M u, RA M v u → ∃ a : Option Addr, u = .pointer a ∧ a.isNone = false) (h : K v hp) : LO P F ⟨d, .nilCheck x, ty, pos, aft, g⟩ ρ hp K := by
  refine LO.same (fun M e w he hh => ?_) h
  have h1 := he x (by first | (simp [Op.operands]; done) | simp [Op.operands, Call.operands])
  rw [hx] at h1
  obtain ⟨a, ha, hc⟩ := hv M _ h1
  cases a with
  | none => cases hc
  | some a => exact ⟨.pointer (some a), by simp [execOp, ha], by rw [← ha]; exact h1⟩
theorem zK1 (h : K (.c (.pin cs off)) hp) (hx : ρ x = .c (.pin cs off) := by exact rfl) : LO P F ⟨d, .nilCheck x, ty, pos, aft, g⟩ ρ hp K := lo_nck hx (pin_some cs off) h
theorem zK2 (h : K (.ptr i b off) hp) (hx : ρ x = .ptr i b off := by exact rfl) : LO P F ⟨d, .nilCheck x, ty, pos, aft, g⟩ ρ hp K := lo_nck hx (ptr_some i b off) h
end
end Go.Proofs.YtadlmkgeplnemaaDoor
namespace Go.Proofs.YtadlmkgeplnemaaDoor
open Go.RowKit
structure Hold (G : Prop) : Prop where
  out : G
/-- operations and control, asq far asq they are plain -/
theorem gG {G G' : Prop} (h : G') (e : Hold G' → G := by
    intro h
    first | refine zNil ?_ | refine zOp ?_ | refine zOpn ?_ | refine zNo ?_ | refine zNon ?_ | refine zUn ?_ | refine zUnn ?_ | refine zYes ?_ | refine zYesn ?_ | (refine zkL ?_; first | refine zL1 ?_ | refine zL2 ?_ | refine zL3 ?_ | refine zLp ?_) | refine zM ?_ | (refine zkF ?_; first | refine zF1 ?_ | refine zF2 ?_ | refine zF3 ?_) | refine zA ?_ | (refine zkB ?_; first | refine zC5 ?_ | refine zC6 ?_ | refine zC1 ?_ | refine zC2 ?_ | refine zC3 ?_ | refine zC4 ?_ | refine zS5 ?_ | refine zS6 ?_ | refine zS1 ?_ | refine zS2 ?_ | refine zS3 ?_ | refine zS4 ?_ | refine zInc ?_ | refine zQ1 ?_ | refine zQ2 ?_ | refine zQ3 ?_ | refine zQ4 ?_ | refine zQ5 ?_ | refine zQ6 ?_) | (refine zkI ?_; first | refine zN3 ?_ | refine zN4 ?_) | refine zS ?_ | refine zPt ?_ | refine zPf ?_ | refine zE ?_ | refine zEA ?_ | refine zNot ?_ | refine zBd ?_ | refine zFn ?_ | refine zK1 ?_ | refine zK2 ?_ | refine zBs ?_ | refine ac_seq ?_ | refine ac_block ?_ | refine ac_region ?_ | refine ac_skip ?_ | refine ac_exit ?_ | refine ac_ret ?_ | refine zT ?_ | refine zF ?_
    repeat (first | refine zNil ?_ | refine zOp ?_ | refine zOpn ?_ | refine zNo ?_ | refine zNon ?_ | refine zUn ?_ | refine zUnn ?_ | refine zYes ?_ | refine zYesn ?_ | (refine zkL ?_; first | refine zL1 ?_ | refine zL2 ?_ | refine zL3 ?_ | refine zLp ?_) | refine zM ?_ | (refine zkF ?_; first | refine zF1 ?_ | refine zF2 ?_ | refine zF3 ?_) | refine zA ?_ | (refine zkB ?_; first | refine zC5 ?_ | refine zC6 ?_ | refine zC1 ?_ | refine zC2 ?_ | refine zC3 ?_ | refine zC4 ?_ | refine zS5 ?_ | refine zS6 ?_ | refine zS1 ?_ | refine zS2 ?_ | refine zS3 ?_ | refine zS4 ?_ | refine zInc ?_ | refine zQ1 ?_ | refine zQ2 ?_ | refine zQ3 ?_ | refine zQ4 ?_ | refine zQ5 ?_ | refine zQ6 ?_) | (refine zkI ?_; first | refine zN3 ?_ | refine zN4 ?_) | refine zS ?_ | refine zPt ?_ | refine zPf ?_ | refine zE ?_ | refine zEA ?_ | refine zNot ?_ | refine zBd ?_ | refine zFn ?_ | refine zK1 ?_ | refine zK2 ?_ | refine zBs ?_ | refine ac_seq ?_ | refine ac_block ?_ | refine ac_region ?_ | refine ac_skip ?_ | refine ac_exit ?_ | refine ac_ret ?_ | refine zT ?_ | refine zF ?_)
    exact h.out) : G := e ⟨h⟩
/-- operations of a region that draws, asq long asq they only look -/
theorem gW {G G' : Prop} (h : G') (e : Hold G' → G := by
    intro h
    first | (apply w_q; (focus exact rfl); (focus exact rfl); focus (intro _; (first | (refine zkL ?_; first | refine zL1 ?_ | refine zL2 ?_ | refine zL3 ?_ | refine zLp ?_) | refine zM ?_ | (refine zkF ?_; first | refine zF1 ?_ | refine zF2 ?_ | refine zF3 ?_) | refine zA ?_ | (refine zkB ?_; first | refine zC5 ?_ | refine zC6 ?_ | refine zC1 ?_ | refine zC2 ?_ | refine zC3 ?_ | refine zC4 ?_ | refine zS5 ?_ | refine zS6 ?_ | refine zS1 ?_ | refine zS2 ?_ | refine zS3 ?_ | refine zS4 ?_ | refine zInc ?_ | refine zQ1 ?_ | refine zQ2 ?_ | refine zQ3 ?_ | refine zQ4 ?_ | refine zQ5 ?_ | refine zQ6 ?_) | (refine zkI ?_; first | refine zN3 ?_ | refine zN4 ?_) | refine zPt ?_ | refine zPf ?_ | refine zE ?_ | refine zEA ?_ | refine zNot ?_ | refine zBd ?_ | refine zBs ?_ | refine zFn ?_ | refine zK1 ?_ | refine zK2 ?_ | (refine zkI ?_; first | refine zN1 (fun _ => ?_) | refine zN2 (fun _ => ?_))); exact det_refl)) | (apply w_p; (focus exact rfl); (focus exact rfl); focus (intro _; (first | (refine zkL ?_; first | refine zL1 ?_ | refine zL2 ?_ | refine zL3 ?_ | refine zLp ?_) | refine zM ?_ | (refine zkF ?_; first | refine zF1 ?_ | refine zF2 ?_ | refine zF3 ?_) | refine zA ?_ | (refine zkB ?_; first | refine zC5 ?_ | refine zC6 ?_ | refine zC1 ?_ | refine zC2 ?_ | refine zC3 ?_ | refine zC4 ?_ | refine zS5 ?_ | refine zS6 ?_ | refine zS1 ?_ | refine zS2 ?_ | refine zS3 ?_ | refine zS4 ?_ | refine zInc ?_ | refine zQ1 ?_ | refine zQ2 ?_ | refine zQ3 ?_ | refine zQ4 ?_ | refine zQ5 ?_ | refine zQ6 ?_) | (refine zkI ?_; first | refine zN3 ?_ | refine zN4 ?_) | refine zPt ?_ | refine zPf ?_ | refine zE ?_ | refine zEA ?_ | refine zNot ?_ | refine zBd ?_ | refine zBs ?_ | refine zFn ?_ | refine zK1 ?_ | refine zK2 ?_ | (refine zkI ?_; first | refine zN1 (fun _ => ?_) | refine zN2 (fun _ => ?_))); exact det_refl)) | (apply w_un; (focus exact rfl); (focus exact rfl); (focus exact rfl); (focus exact rfl)) | (apply w_no; (focus exact rfl); (focus exact rfl); (focus exact rfl); (focus exact rfl); focus (first | rfl | assumption | exact neg_t (by assumption) | exact neg_f (by assumption))) | (apply w_qg; (focus exact rfl); (focus exact rfl); (focus exact rfl); (focus exact rfl); (focus (first | rfl | assumption | exact neg_t (by assumption) | exact neg_f (by assumption))); (focus (intro _; (first | (refine zkL ?_; first | refine zL1 ?_ | refine zL2 ?_ | refine zL3 ?_ | refine zLp ?_) | refine zM ?_ | (refine zkF ?_; first | refine zF1 ?_ | refine zF2 ?_ | refine zF3 ?_) | refine zA ?_ | (refine zkB ?_; first | refine zC5 ?_ | refine zC6 ?_ | refine zC1 ?_ | refine zC2 ?_ | refine zC3 ?_ | refine zC4 ?_ | refine zS5 ?_ | refine zS6 ?_ | refine zS1 ?_ | refine zS2 ?_ | refine zS3 ?_ | refine zS4 ?_ | refine zInc ?_ | refine zQ1 ?_ | refine zQ2 ?_ | refine zQ3 ?_ | refine zQ4 ?_ | refine zQ5 ?_ | refine zQ6 ?_) | (refine zkI ?_; first | refine zN3 ?_ | refine zN4 ?_) | refine zPt ?_ | refine zPf ?_ | refine zE ?_ | refine zEA ?_ | refine zNot ?_ | refine zBd ?_ | refine zBs ?_ | refine zFn ?_ | refine zK1 ?_ | refine zK2 ?_ | (refine zkI ?_; first | refine zN1 (fun _ => ?_) | refine zN2 (fun _ => ?_))); exact det_refl)))
    repeat (first | (apply w_q; (focus exact rfl); (focus exact rfl); focus (intro _; (first | (refine zkL ?_; first | refine zL1 ?_ | refine zL2 ?_ | refine zL3 ?_ | refine zLp ?_) | refine zM ?_ | (refine zkF ?_; first | refine zF1 ?_ | refine zF2 ?_ | refine zF3 ?_) | refine zA ?_ | (refine zkB ?_; first | refine zC5 ?_ | refine zC6 ?_ | refine zC1 ?_ | refine zC2 ?_ | refine zC3 ?_ | refine zC4 ?_ | refine zS5 ?_ | refine zS6 ?_ | refine zS1 ?_ | refine zS2 ?_ | refine zS3 ?_ | refine zS4 ?_ | refine zInc ?_ | refine zQ1 ?_ | refine zQ2 ?_ | refine zQ3 ?_ | refine zQ4 ?_ | refine zQ5 ?_ | refine zQ6 ?_) | (refine zkI ?_; first | refine zN3 ?_ | refine zN4 ?_) | refine zPt ?_ | refine zPf ?_ | refine zE ?_ | refine zEA ?_ | refine zNot ?_ | refine zBd ?_ | refine zBs ?_ | refine zFn ?_ | refine zK1 ?_ | refine zK2 ?_ | (refine zkI ?_; first | refine zN1 (fun _ => ?_) | refine zN2 (fun _ => ?_))); exact det_refl)) | (apply w_p; (focus exact rfl); (focus exact rfl); focus (intro _; (first | (refine zkL ?_; first | refine zL1 ?_ | refine zL2 ?_ | refine zL3 ?_ | refine zLp ?_) | refine zM ?_ | (refine zkF ?_; first | refine zF1 ?_ | refine zF2 ?_ | refine zF3 ?_) | refine zA ?_ | (refine zkB ?_; first | refine zC5 ?_ | refine zC6 ?_ | refine zC1 ?_ | refine zC2 ?_ | refine zC3 ?_ | refine zC4 ?_ | refine zS5 ?_ | refine zS6 ?_ | refine zS1 ?_ | refine zS2 ?_ | refine zS3 ?_ | refine zS4 ?_ | refine zInc ?_ | refine zQ1 ?_ | refine zQ2 ?_ | refine zQ3 ?_ | refine zQ4 ?_ | refine zQ5 ?_ | refine zQ6 ?_) | (refine zkI ?_; first | refine zN3 ?_ | refine zN4 ?_) | refine zPt ?_ | refine zPf ?_ | refine zE ?_ | refine zEA ?_ | refine zNot ?_ | refine zBd ?_ | refine zBs ?_ | refine zFn ?_ | refine zK1 ?_ | refine zK2 ?_ | (refine zkI ?_; first | refine zN1 (fun _ => ?_) | refine zN2 (fun _ => ?_))); exact det_refl)) | (apply w_un; (focus exact rfl); (focus exact rfl); (focus exact rfl); (focus exact rfl)) | (apply w_no; (focus exact rfl); (focus exact rfl); (focus exact rfl); (focus exact rfl); focus (first | rfl | assumption | exact neg_t (by assumption) | exact neg_f (by assumption))) | (apply w_qg; (focus exact rfl); (focus exact rfl); (focus exact rfl); (focus exact rfl); (focus (first | rfl | assumption | exact neg_t (by assumption) | exact neg_f (by assumption))); (focus (intro _; (first | (refine zkL ?_; first | refine zL1 ?_ | refine zL2 ?_ | refine zL3 ?_ | refine zLp ?_) | refine zM ?_ | (refine zkF ?_; first | refine zF1 ?_ | refine zF2 ?_ | refine zF3 ?_) | refine zA ?_ | (refine zkB ?_; first | refine zC5 ?_ | refine zC6 ?_ | refine zC1 ?_ | refine zC2 ?_ | refine zC3 ?_ | refine zC4 ?_ | refine zS5 ?_ | refine zS6 ?_ | refine zS1 ?_ | refine zS2 ?_ | refine zS3 ?_ | refine zS4 ?_ | refine zInc ?_ | refine zQ1 ?_ | refine zQ2 ?_ | refine zQ3 ?_ | refine zQ4 ?_ | refine zQ5 ?_ | refine zQ6 ?_) | (refine zkI ?_; first | refine zN3 ?_ | refine zN4 ?_) | refine zPt ?_ | refine zPf ?_ | refine zE ?_ | refine zEA ?_ | refine zNot ?_ | refine zBd ?_ | refine zBs ?_ | refine zFn ?_ | refine zK1 ?_ | refine zK2 ?_ | (refine zkI ?_; first | refine zN1 (fun _ => ?_) | refine zN2 (fun _ => ?_))); exact det_refl))))
    exact h.out) : G := e ⟨h⟩
end Go.Proofs.YtadlmkgeplnemaaDoor
namespace Go.Proofs.YtadlmkgeplnemaaDoor
open Go.RowKit
theorem HeapOk.take {F : Frm} {M : Mm} {hp : List Blk} {w : World} (h : HeapOk F M hp w) (k : Nat) : HeapOk F M (hp.take k) w := by
  have hg : ∀ (i : Nat) (x : Blk), (hp.take k)[i]? = some x → hp[i]? = some x := by
    intro i x hx
    rw [List.getElem?_take] at hx
    split at hx
    · exact hx
    · cases hx
  exact ⟨h.mem, h.ext, h.frm, fun i x hx => h.at_ i x (hg i x hx), fun i j x y b hx hy => h.sep i j x y b (hg i x hx) (hg j y hy), fun i x b hx => h.out i x b (hg i x hx)⟩
/-- the function, given values that read so and blocks of the caller's own, returns a value that reads so, the blocks turned -/
def AG (P : Program) (f : FuncId) (asq : List AV) (hs : List Blk) (R : AV → List Blk → Prop) : Prop :=
  Enters P f ∧ ∀ (F : Frm) (M : Mm) (w : World) (vs : List Value), HeapOk F M hs w → RAs M asq vs →
    Calls P f vs.toArray w fun e w' => ∃ v r hs' M', e = .returned v ∧ R r hs' ∧ Ext F.may M M' ∧ HeapOk F M' hs' w' ∧ RA M' r v
theorem AG.imp {P : Program} {f : FuncId} {asq : List AV} {hs : List Blk} {R R' : AV → List Blk → Prop} (h : AG P f asq hs R) (hi : ∀ r hs, R r hs → R' r hs) : AG P f asq hs R' :=
  ⟨h.1, fun F M w vs hM hv => (h.2 F M w vs hM hv).mono fun _ _ ⟨v, r, hs', M', h1, h2, h3⟩ => ⟨v, r, hs', M', h1, hi r hs' h2, h3⟩⟩
def subF (M : Mm) (hs : List Blk) (w : World) (hG : Glob w) (hX : ∀ x ∈ globTab, ¬ ∃ (i : Nat) (y : Blk), hs[i]? = some y ∧ y.blk = some x.1) : Frm := ⟨w, fun b => ∃ (i : Nat) (x : Blk), hs[i]? = some x ∧ x.blk = some b, M, hG, hX⟩
def Re (a b : AV) : Prop := ∀ M u, RA M a u → RA M b u
end Go.Proofs.YtadlmkgeplnemaaDoor
namespace Go.Proofs.YtadlmkgeplnemaaDoor
open Go.RowKit Go.Lib
def bytT (b : UInt8) : T := .lit (.int .u8 (b.toNat : Int))
def byts (l : List UInt8) : List T := l.map bytT
def bytRow (l : List UInt8) : T := .row l.length 1 (byts l)
theorem rt_byts {M : Mm} : ∀ l : List UInt8, RTs M (byts l) (bvs l)
  | [] => by simp [byts, bvs, RTs]
  | b :: l => by
    simp only [byts, bvs, List.map_cons, RTs]
    exact ⟨_, _, rfl, by simp only [bytT, RT, bv], rt_byts l⟩
section
variable {P : Program} {F : Frm} {L : Tab} {d : Option Tmp} {ty : TypeId} {pos : String} {aft : Array Edge} {g : Option (Nat × Bool)} {ρ : Operand → AV} {hp : List Blk} {K : AV → List Blk → Prop}
variable {t t' u e : TypeId} {x y : Operand} {k k' : IntKind} {a b : Int}
theorem lo_bytes {ti tu te : TI} {s : ByteArray} (hL : TabOk P L) (hx : ρ x = .c (.lit (.string s))) (hs : s.size ≤ maxLen) (hu : L.look u = some tu) (hud : tu.d = .string) (ht : L.look t = some ti) (hd : ti.d = .slice e) (he : L.look e = some te) (hed : te.d = .int .u8) (h : K (.c (bytRow s.data.toList)) hp) : LO P F ⟨d, .convert u t x, ty, pos, aft, g⟩ ρ hp K := by
  refine ⟨fun M ev w hev hh => ?_⟩
  have h1 := hev x (by first | (simp [Op.operands]; done) | simp [Op.operands, Call.operands])
  rw [hx] at h1
  simp only [RA, RT] at h1
  obtain ⟨c, w', h2, h3, h4, h5⟩ := run_bytes_rd (P := P) w u t e s.data.toList (hL.string hu hud) (hL.slice ht hd) (hL.int he hed)
  have hsz : s.data.toList.length = s.size := rfl
  have hrun : (execOp ev ⟨d, .convert u t x, ty, pos, aft, g⟩).run P w = .ok (.value (.slice (some ⟨w.heap.size, 0, none⟩) s.data.toList.length c)) w' := by
    simp [execOp, h1] at h2 ⊢
    simp [h2]
  rw [hrun]
  have hm0 := hh.mem.below h5
  have hM := frz_ext (M := M) w.heap.size w'
  refine ⟨frz M w.heap.size w', _, hp, h, (hM.low hh.frm.size), hh.below h5 hM (frz_ok hm0 _), ?_⟩
  simp only [RA, bytRow, RT]
  refine ⟨some ⟨w.heap.size, 0, none⟩, c, bvs s.data.toList, rfl, h3, by rw [hsz]; exact hs, by omega, by rw [bvs_len]; omega, fun hn => ⟨_, rfl, fun j u hj => ?_⟩, rt_byts _⟩
  obtain ⟨ad, e1, _, e2⟩ := h4.2 hn
  injection e1 with e1
  subst e1
  exact frz_new (mem_fresh hh.mem (by rw [add_block]; exact Nat.le_refl _)) (by rw [add_block]; exact Nat.le_refl _) (e2 j u hj) (bvs_one _ u (List.mem_of_getElem? hj))
end
end Go.Proofs.YtadlmkgeplnemaaDoor
namespace Go.Proofs.YtadlmkgeplnemaaDoor
open Go.RowKit
section
variable {P : Program} {F : Frm} {L : Tab} {d : Option Tmp} {ty : TypeId} {pos : String} {aft : Array Edge} {g : Option (Nat × Bool)} {ρ : Operand → AV} {hp : List Blk} {K : AV → List Blk → Prop}
variable {t u e : TypeId} {x y : Operand} {ti tu te : TI} {cs : List T} {n i : Nat} {v : Value} {e' : TypeId}
theorem zByt {s : ByteArray} (hs : s.size ≤ maxLen) (h : K (.c (bytRow s.data.toList)) hp) (hL : TabOk P L := by exact tok) (hx : ρ x = .c (.lit (.string s)) := by exact rfl) (hu : L.look u = some tu := by exact rfl) (hud : tu.d = .string := by exact rfl) (ht : L.look t = some ti := by exact rfl) (hd : ti.d = .slice e := by exact rfl) (he : L.look e = some te := by exact rfl) (hed : te.d = .int .u8 := by exact rfl) :
    LO P F ⟨d, .convert u t x, ty, pos, aft, g⟩ ρ hp K := lo_bytes hL hx hs hu hud ht hd he hed h
end
end Go.Proofs.YtadlmkgeplnemaaDoor
namespace Go.Proofs.YtadlmkgeplnemaaDoor
open Go.RowKit
def bs (l : List UInt8) : ByteArray := ⟨l.toArray⟩
theorem bs_app (a b : List UInt8) : bs a ++ bs b = bs (a ++ b) := by
  apply ByteArray.ext
  simp [bs]
theorem bs_self (s : ByteArray) : bs s.data.toList = s := by cases s; rfl
theorem bs_size' (l : List UInt8) : (bs l).size = l.length := by simp [bs, ByteArray.size]
section
variable {P : Program} {F : Frm} {L : Tab} {d : Option Tmp} {ty : TypeId} {pos : String} {aft : Array Edge} {g : Option (Nat × Bool)} {ρ : Operand → AV} {hp : List Blk} {K : AV → List Blk → Prop}
theorem zCatb {t t' : TypeId} {x y : Operand} (a b : List UInt8) (hb : a.length + b.length ≤ 9223372036854775807) (h : K (.c (.lit (.string (bs (a ++ b))))) hp) (hx : ρ x = .c (.lit (.string (bs a))) := by exact rfl) (hy : ρ y = .c (.lit (.string (bs b))) := by exact rfl) : LO P F ⟨d, .binOp .add t x y t', ty, pos, aft, g⟩ ρ hp K :=
  lo_cat hx hy (by rw [bs_size', bs_size']; exact hb) (by rw [bs_app]; exact h)
end
end Go.Proofs.YtadlmkgeplnemaaDoor
namespace Go.Proofs.YtadlmkgeplnemaaDoor
open Go.RowKit
inductive Pl where
  | fin (r : List Nat)
  | fork (p : List Nat) (i : Nat) (a : Pl) (j : Nat) (b : Pl)
def Pl.n : Pl → Nat
  | .fin r => r.length
  | .fork p _ a _ _ => a.n + 1 + p.length
theorem AG.re {P : Program} {f : FuncId} {asq : List AV} {hs : List Blk} {R R' : AV → List Blk → Prop} (h : AG P f asq hs R) (hi : ∀ r hs, R r hs → ∃ r', Re r r' ∧ R' r' hs) : AG P f asq hs R' :=
  ⟨h.1, fun F M w vs hM hv => (h.2 F M w vs hM hv).mono fun _ _ ⟨v, r, hs', M', h1, h2, h3, h4, h5⟩ => let ⟨r', h6, h7⟩ := hi r hs' h2; ⟨v, r', hs', M', h1, h7, h3, h4, h6 M' v h5⟩⟩
end Go.Proofs.YtadlmkgeplnemaaDoor
namespace Go.Proofs.YtadlmkgeplnemaaDoor
open Go.RowKit
section
variable {P : Program} {F : Frm} {L : Tab} {d : Option Tmp} {ty : TypeId} {pos : String} {aft : Array Edge} {g : Option (Nat × Bool)} {ρ : Operand → AV} {hp : List Blk} {K : AV → List Blk → Prop}
theorem zSix {t : TypeId} {ti : TI} {x y : Operand} {l : List UInt8} {k : IntKind} {a : Int} {b : UInt8} (m : Nat) (hb : l[m]? = some b) (hK : K (.c (.lit (.int .u8 (b.toNat : Int)))) hp) (hz : a = (m : Int) := by exact rfl) (hL : TabOk P L := by exact tok) (hx : ρ x = .c (.lit (.string (bs l))) := by exact rfl) (hy : ρ y = .c (.lit (.int k a)) := by exact rfl) (ht : L.look t = some ti := by exact rfl) (hd : ti.d = .string := by exact rfl) : LO P F ⟨d, .index t x y, ty, pos, aft, g⟩ ρ hp K := by
  refine LO.same (fun M e w he _ => ?_) hK
  have h1 := he x (by simp [Op.operands])
  rw [hx] at h1
  have h2 := he y (by simp [Op.operands])
  rw [hy] at h2
  simp only [RA, RT] at h1 h2
  subst hz
  refine ⟨.int .u8 (b.toNat : Int), ?_, by simp only [RA, RT]⟩
  obtain ⟨hm, hlm⟩ := List.getElem?_eq_some_iff.1 hb
  have hsz : (bs l).size = l.length := bs_size' l
  have hi := run_index_string (P := P) w t (bs l) k (m : Int) (hL.string ht hd)
  rw [dif_pos ⟨by omega, by omega⟩] at hi
  have hel : (bs l)[(m : Int).toNat]'(by omega) = b := by
    subst hlm
    simp [bs, ByteArray.getElem_eq_getElem_data]
  rw [hel] at hi
  simp [execOp, h1, h2, hi]
theorem zSpl {t : TypeId} {ti : TI} {x y : Operand} {l : List UInt8} {k : IntKind} {a : Int} (m : Nat) (hm : m ≤ l.length) (hK : K (.c (.lit (.string (bs (l.drop m))))) hp) (hz : a = (m : Int) := by exact rfl) (hL : TabOk P L := by exact tok) (hx : ρ x = .c (.lit (.string (bs l))) := by exact rfl) (hy : ρ y = .c (.lit (.int k a)) := by exact rfl) (ht : L.look t = some ti := by exact rfl) (hd : ti.d = .string := by exact rfl) : LO P F ⟨d, .slice t x (some y) none none, ty, pos, aft, g⟩ ρ hp K := by
  refine LO.same (fun M e w he _ => ?_) hK
  have h1 := he x (by simp [Op.operands])
  rw [hx] at h1
  have h2 := he y (by simp [Op.operands])
  rw [hy] at h2
  simp only [RA, RT] at h1 h2
  subst hz
  refine ⟨.string (bs (l.drop m)), ?_, by simp only [RA, RT]⟩
  have hsz : (bs l).size = l.length := bs_size' l
  have hb := run_sliceBound (P := P) (w := w) k (m : Int) l.length .sliceB (by omega) (by omega)
  have he : (bs l).extract m l.length = bs (l.drop m) := by
    unfold bs
    rw [ByteArray.extract_mk, List.take_of_length_le (by simp)]
  simp [execOp, Instr.sliceAt, Instr.slice, Instr.sliceBounds, h1, h2, run_underlying (hL.string ht hd), hsz, hb, he]
end
end Go.Proofs.YtadlmkgeplnemaaDoor
namespace Go.Proofs.YtadlmkgeplnemaaDoor
open Go.RowKit
theorem bs_data (s : ByteArray) : bs s.data.toList = s := by cases s; rfl
end Go.Proofs.YtadlmkgeplnemaaDoor
namespace Go.Proofs.YtadlmkgeplnemaaDoor
open Go.RowKit
theorem TabOk.array {P : Program} {L : Tab} (hL : TabOk P L) {t e : TypeId} {n : Nat} {i : TI} (h : L.look t = some i) (hd : i.d = .array n e) : P.underlying t = some (.array n e) := by
  obtain ⟨d, h1, h2⟩ := hL.desc h
  rw [hd] at h2
  cases d <;> simp [descB] at h2
  rw [h1, h2.1, h2.2]
end Go.Proofs.YtadlmkgeplnemaaDoor
namespace Go.Proofs.YtadlmkgeplnemaaDoor
open Go.RowKit
inductive Pt where
  | fin (r : List Nat)
  | fork (p : List Nat) (i : Nat) (a : Pt) (j : Nat) (b : Pt)
  | fork3 (p : List Nat) (i : Nat) (a : Pt) (j : Nat) (b : Pt) (k : Nat) (c : Pt)
  | fork4 (p : List Nat) (i : Nat) (a : Pt) (j : Nat) (b : Pt) (k : Nat) (c : Pt) (m : Nat) (d : Pt)
def Pt.n : Pt → Nat
  | .fin r => r.length
  | .fork p _ a _ _ => a.n + 1 + p.length
  | .fork3 p _ a _ _ _ _ => a.n + 1 + p.length
  | .fork4 p _ a _ _ _ _ _ _ => a.n + 1 + p.length
end Go.Proofs.YtadlmkgeplnemaaDoor
namespace Go.Proofs.YtadlmkgeplnemaaDoor
open Go.RowKit
def Dj (x y : Blk) : Prop := ∀ b, x.blk = some b → y.blk ≠ some b
theorem Dj.symm {x y : Blk} (h : Dj x y) : Dj y x := fun b h1 h2 => h b h2 h1
structure HpOk (F : Frm) (M : Mm) (hp : List Blk) (w : World) : Prop where
  mem : MemOk M w
  ext : Ext F.may F.M0 M
  frm : Keeps F w
  at_ : ∀ x ∈ hp, BlkOk M w x
  sep : hp.Pairwise Dj
  out : ∀ x ∈ hp, ∀ b, x.blk = some b → F.may b ∧ ∀ p : Addr, p.block = b → M p = none
section
variable {F : Frm} {M : Mm} {hp hp' : List Blk} {w : World}
theorem HeapOk.all (h : HeapOk F M hp w) : HpOk F M hp w := by
  refine ⟨h.mem, h.ext, h.frm, fun x hx => ?_, ?_, fun x hx b hb => ?_⟩
  · obtain ⟨i, hi⟩ := List.getElem?_of_mem hx
    exact h.at_ i x hi
  · rw [List.pairwise_iff_getElem]
    intro i j hi hj hij b h1 h2
    have := h.sep i j _ _ b (List.getElem?_eq_getElem hi) (List.getElem?_eq_getElem hj) h1 h2
    omega
  · obtain ⟨i, hi⟩ := List.getElem?_of_mem hx
    exact h.out i x b hi hb
theorem HpOk.heap (h : HpOk F M hp w) : HeapOk F M hp w := by
  have hs := List.pairwise_iff_getElem.1 h.sep
  refine ⟨h.mem, h.ext, h.frm, fun i x hi => h.at_ x (List.mem_of_getElem? hi), fun i j x y b hi hj hx hy => ?_, fun i x b hi hb => h.out x (List.mem_of_getElem? hi) b hb⟩
  obtain ⟨hi', rfl⟩ := List.getElem?_eq_some_iff.1 hi
  obtain ⟨hj', rfl⟩ := List.getElem?_eq_some_iff.1 hj
  rcases Nat.lt_trichotomy i j with hlt | rfl | hlt
  · exact absurd hy (hs i j hi' hj' hlt b hx)
  · rfl
  · exact absurd hx (hs j i hj' hi' hlt b hy)
theorem sub_gx2 {A B : List Blk} (h : HeapOk F M (A ++ B) w) : ∀ x ∈ globTab, ¬ ∃ (i : Nat) (y : Blk), A[i]? = some y ∧ y.blk = some x.1 := by
  rintro x hx ⟨i, y, h1, h2⟩
  have hl := glob_lt F.G hx
  rcases (h.all.out y (List.mem_append_left _ (List.mem_of_getElem? h1)) x.1 h2).1 with h4 | h4
  · exact F.GX x hx h4
  · omega
theorem HeapOk.part {A B : List Blk} (h : HeapOk F M (A ++ B) w) : HeapOk (subF M A w h.glob (sub_gx2 h)) M A w := by
  have hq := h.all
  refine HpOk.heap ⟨h.mem, Ext.refl _ _, ⟨rfl, rfl, rfl, Nat.le_refl _, fun _ _ _ => rfl⟩, fun x hx => hq.at_ x (List.mem_append_left _ hx), (List.pairwise_append.1 hq.sep).1, fun x hx b hb => ?_⟩
  obtain ⟨i, hi⟩ := List.getElem?_of_mem hx
  exact ⟨.inl ⟨i, x, hi, hb⟩, (hq.out x (List.mem_append_left _ hx) b hb).2⟩
end
end Go.Proofs.YtadlmkgeplnemaaDoor
