/-
  Texts of this proof, part 4: Ab12 Ab13 Ab14 Ab15 Ab16 Ab26 Ab20 Ab23 Ab24 Ab29 Vaa Lkb Lkf.
-/
import Derived.Test.YtadlmkgeplnemaaDoorQReplayTexts3
import Derived.ChangeKeysEq
import Derived.Laws.IdiomRangeMap
import Derived.Laws.Strings2
import Derived.Lib.AppendStr
import Derived.Lib.AppendZerosOnto
import Derived.Lib.AtoiAllCases
import Derived.Lib.AtoiAllMem
import Derived.Lib.Join
import Derived.Lib.MinMax
import Derived.MapKept
namespace Go.Proofs.YtadlmkgeplnemaaDoor
open Go.RowKit
/-- what a slot holds, laid open -/
def fc : AV → Option AV
  | .c t => some (.c t)
  | .agg cs => some (.agg cs)
  | .tup cs => some (.tup cs)
  | .fn f cap => some (.fn f cap)
  | .ptr i b off => some (.ptr i b off)
  | .own i v => some (.own i v)
  | .eptr i v k => some (.eptr i v k)
  | .junk => none
theorem fc_eq : ∀ {v u : AV}, fc v = some u → v = u
  | .c _, _, h => by injection h
  | .agg _, _, h => by injection h
  | .tup _, _, h => by injection h
  | .fn _ _, _, h => by injection h
  | .ptr _ _ _, _, h => by injection h
  | .own _ _, _, h => by injection h
  | .eptr _ _ _, _, h => by injection h
  | .junk, _, h => by cases h
section
variable {P : Program} {F : Frm} {L : Tab} {ops : Array Oper} {K : AS → Prop} {τ : Nat → AV} {hp : List Blk} {N : Nat} {rest : List Oper} {op : Op} {ty : TypeId} {pos : String} {aft : Array Edge} {g : Nat} {b c : Bool} {d t : Tmp} {σ : AS}
theorem zNil (h : K σ) : AL P F ops K [] σ := al_nil h
theorem zOp (h : LO P F ⟨some t, op, ty, pos, aft, none⟩ (evT τ) hp fun v hp' => AL P F ops K rest ⟨upd N t v τ, hp', N⟩) : AL P F ops K (⟨some t, op, ty, pos, aft, none⟩ :: rest) ⟨τ, hp, N⟩ := x_op h
theorem zOpn (h : LO P F ⟨none, op, ty, pos, aft, none⟩ (evT τ) hp fun _ hp' => AL P F ops K rest ⟨τ, hp', N⟩) : AL P F ops K (⟨none, op, ty, pos, aft, none⟩ :: rest) ⟨τ, hp, N⟩ := x_opn h
theorem zYes (h : LO P F ⟨some t, op, ty, pos, aft, some (g, b)⟩ (evT τ) hp fun v hp' => AL P F ops K rest ⟨upd N t v τ, hp', N⟩) (hd : (ops[g]?).bind (·.dst) = some d := by exact rfl) (hv : τ d = .c (.lit (.bool c)) := by exact rfl) (hc : c = b := by first | exact rfl | assumption | exact neg_t (by assumption) | exact neg_f (by assumption)) :
    AL P F ops K (⟨some t, op, ty, pos, aft, some (g, b)⟩ :: rest) ⟨τ, hp, N⟩ := x_yes hd hv hc h
theorem zYesn (h : LO P F ⟨none, op, ty, pos, aft, some (g, b)⟩ (evT τ) hp fun _ hp' => AL P F ops K rest ⟨τ, hp', N⟩) (hd : (ops[g]?).bind (·.dst) = some d := by exact rfl) (hv : τ d = .c (.lit (.bool c)) := by exact rfl) (hc : c = b := by first | exact rfl | assumption | exact neg_t (by assumption) | exact neg_f (by assumption)) :
    AL P F ops K (⟨none, op, ty, pos, aft, some (g, b)⟩ :: rest) ⟨τ, hp, N⟩ := x_yesn hd hv hc h
theorem zNo (h : AL P F ops K rest ⟨upd N t (.c (.lit undef)) τ, hp, N⟩) (hd : (ops[g]?).bind (·.dst) = some d := by exact rfl) (hv : τ d = .c (.lit (.bool c)) := by exact rfl) (hc : c = !b := by first | exact rfl | assumption | exact neg_t (by assumption) | exact neg_f (by assumption)) :
    AL P F ops K (⟨some t, op, ty, pos, aft, some (g, b)⟩ :: rest) ⟨τ, hp, N⟩ := x_no hd hv hc h
theorem zNon (h : AL P F ops K rest ⟨τ, hp, N⟩) (hd : (ops[g]?).bind (·.dst) = some d := by exact rfl) (hv : τ d = .c (.lit (.bool c)) := by exact rfl) (hc : c = !b := by first | exact rfl | assumption | exact neg_t (by assumption) | exact neg_f (by assumption)) :
    AL P F ops K (⟨none, op, ty, pos, aft, some (g, b)⟩ :: rest) ⟨τ, hp, N⟩ := x_non hd hv hc h
theorem zUn (h : AL P F ops K rest ⟨upd N t (.c (.lit undef)) τ, hp, N⟩) (hd : (ops[g]?).bind (·.dst) = some d := by exact rfl) (hv : τ d = .c (.lit undef) := by exact rfl) : AL P F ops K (⟨some t, op, ty, pos, aft, some (g, b)⟩ :: rest) ⟨τ, hp, N⟩ := x_un hd hv h
theorem zUnn (h : AL P F ops K rest ⟨τ, hp, N⟩) (hd : (ops[g]?).bind (·.dst) = some d := by exact rfl) (hv : τ d = .c (.lit undef) := by exact rfl) : AL P F ops K (⟨none, op, ty, pos, aft, some (g, b)⟩ :: rest) ⟨τ, hp, N⟩ := x_unn hd hv h
end
section
variable {P : Program} {F : Frm} {L : Tab} {τ τ' : Nat → AV} {hp hp' : List Blk} {N : Nat} {Q : Exit → AS → Prop}
theorem zT {c : Operand} {x y : Code} {t : Bool} (h : AC P F x Q ⟨τ, hp, N⟩) (hc : evT τ c = .c (.lit (.bool t)) := by exact rfl) (ht : t = true := by first | exact rfl | assumption | exact neg_t (by assumption)) : AC P F (.cond c x y) Q ⟨τ, hp, N⟩ := x_t hc ht h
theorem zF {c : Operand} {x y : Code} {t : Bool} (h : AC P F y Q ⟨τ, hp, N⟩) (hc : evT τ c = .c (.lit (.bool t)) := by exact rfl) (ht : t = false := by first | exact rfl | assumption | exact neg_f (by assumption)) : AC P F (.cond c x y) Q ⟨τ, hp, N⟩ := x_f hc ht h
end
section
variable {P : Program} {F : Frm} {L : Tab} {d : Option Tmp} {ty : TypeId} {pos : String} {aft : Array Edge} {g : Option (Nat × Bool)} {ρ : Operand → AV} {hp : List Blk} {K : AV → List Blk → Prop}
theorem zkL {t : TypeId} {x : Operand} (h : LO P F ⟨d, .load t x, ty, pos, aft, g⟩ ρ hp K) : LO P F ⟨d, .load t x, ty, pos, aft, g⟩ ρ hp K := h
theorem zkF {t : TypeId} {x : Operand} {k : Nat} (h : LO P F ⟨d, .fieldAddr t x k, ty, pos, aft, g⟩ ρ hp K) : LO P F ⟨d, .fieldAddr t x k, ty, pos, aft, g⟩ ρ hp K := h
theorem zkB {o : BinOp} {t t' : TypeId} {x y : Operand} (h : LO P F ⟨d, .binOp o t x y t', ty, pos, aft, g⟩ ρ hp K) : LO P F ⟨d, .binOp o t x y t', ty, pos, aft, g⟩ ρ hp K := h
theorem zkI {b : Builtin} {xs : Array Operand} {ts : Array TypeId} (h : LO P F ⟨d, .call { callee := .builtin b, args := xs, argTypes := ts }, ty, pos, aft, g⟩ ρ hp K) : LO P F ⟨d, .call { callee := .builtin b, args := xs, argTypes := ts }, ty, pos, aft, g⟩ ρ hp K := h
theorem zM {x : Operand} {v : AV} (h : K v hp) (hv : fc (ρ x) = some v := by exact rfl) : LO P F ⟨d, .move x, ty, pos, aft, g⟩ ρ hp K := lo_move (fc_eq hv) h
theorem zA {x : Operand} {v : AV} (h : K v hp) (hv : fc (ρ x) = some v := by exact rfl) : LO P F ⟨d, .assign x, ty, pos, aft, g⟩ ρ hp K := lo_assign (fc_eq hv) h
theorem zPt {c x y : Operand} {v : AV} {b : Bool} (h : K v hp) (hc : ρ c = .c (.lit (.bool b)) := by exact rfl) (hb : b = true := by first | exact rfl | assumption | exact neg_t (by assumption)) (hv : fc (ρ x) = some v := by exact rfl) : LO P F ⟨d, .pick c x y, ty, pos, aft, g⟩ ρ hp K := v_pick_t hc hb (fc_eq hv) h
theorem zPf {c x y : Operand} {v : AV} {b : Bool} (h : K v hp) (hc : ρ c = .c (.lit (.bool b)) := by exact rfl) (hb : b = false := by first | exact rfl | assumption | exact neg_f (by assumption)) (hv : fc (ρ y) = some v := by exact rfl) : LO P F ⟨d, .pick c x y, ty, pos, aft, g⟩ ρ hp K := v_pick_f hc hb (fc_eq hv) h
theorem zE {x : Operand} {ts : List T} {k : Nat} {t : T} (h : K (.c t) hp) (hx : ρ x = .c (.tup ts) := by exact rfl) (hk : ts[k]? = some t := by exact rfl) : LO P F ⟨d, .extract x k, ty, pos, aft, g⟩ ρ hp K := lo_extract hx hk h
theorem zEA {x : Operand} {ts : List AV} {k : Nat} {t : AV} (h : K t hp) (hx : ρ x = .tup ts := by exact rfl) (hk : ts[k]? = some t := by exact rfl) : LO P F ⟨d, .extract x k, ty, pos, aft, g⟩ ρ hp K := lo_extractA hx hk h
theorem zAl {t : TypeId} {ti : TI} {cs : List AV} {n : Nat} {hp' : Nat → List Blk} (h : ∀ b, K (.ptr n b 0) (hp' b)) (hL : TabOk P L := by exact tok) (ht : L.look t = some ti := by exact rfl) (hz : evl (ti.zero.map fun v => AV.c (.lit v)) = some cs := by exact rfl) (hn : lenU hp = some n := by exact rfl) (hf : ∀ b, evl (hp ++ [.box b t cs]) = some (hp' b) := by exact fun _ => rfl) : LO P F ⟨d, .alloc t, ty, pos, aft, g⟩ ρ hp K := v_alloc hL ht hz hn hf h
theorem zBx {t : TypeId} {x : Operand} {v : AV} {cs : List AV} {n : Nat} {hp' : Nat → List Blk} (h : ∀ b, K (.ptr n b 0) (hp' b)) (hv : fc (ρ x) = some v := by exact rfl) (hc : evl (cellsA v) = some cs := by exact rfl) (h1 : allOne cs = true := by first | exact rfl | assumption) (hn : lenU hp = some n := by exact rfl) (hf : ∀ b, evl (hp ++ [.box b t cs]) = some (hp' b) := by exact fun _ => rfl) : LO P F ⟨d, .box t x, ty, pos, aft, g⟩ ρ hp K := v_box (fc_eq hv) hc h1 hn hf h
theorem zS {t : TypeId} {ti : TI} {x y : Operand} {i b off : Nat} {tb : TypeId} {cs vs cs' : List AV} {v : AV} {hp' : List Blk} (h : K (.c (.lit undef)) hp') (hL : TabOk P L := by exact tok) (hx : ρ x = .ptr i b off := by exact rfl) (hi : hp[i]? = some (.box b tb cs) := by exact rfl) (hv : fc (ρ y) = some v := by exact rfl) (ht : L.look t = some ti := by exact rfl) (hc : evl (cellsA v) = some vs := by exact rfl) (h1 : allOne vs = true := by first | exact rfl | assumption) (hl : lenU vs = some ti.size := by exact rfl) (hb : Nat.ble (off + ti.size) cs.length = true := by exact rfl) (hs : evl (spl cs off vs) = some cs' := by exact rfl) (hf : evl (hp.set i (.box b tb cs')) = some hp' := by exact rfl) :
    LO P F ⟨d, .store t x y, ty, pos, aft, g⟩ ρ hp K := v_store hL hx hi (fc_eq hv) ht hc h1 hl hb hs hf h
theorem zL1 {t : TypeId} {ti : TI} {x : Operand} {i b off : Nat} {tb : TypeId} {cs : List AV} {v : AV} (h : K v hp) (hL : TabOk P L := by exact tok) (hx : ρ x = .ptr i b off := by exact rfl) (hi : hp[i]? = some (.box b tb cs) := by exact rfl) (ht : L.look t = some ti := by exact rfl) (ha : ti.agg = false := by exact rfl) (hv : cs[off]? = some v := by exact rfl) : LO P F ⟨d, .load t x, ty, pos, aft, g⟩ ρ hp K := lo_load_box1 hL hx hi ht ha hv h
theorem zL2 {t : TypeId} {ti : TI} {x : Operand} {i b off : Nat} {tb : TypeId} {cs l : List AV} (h : K (.agg l) hp) (hL : TabOk P L := by exact tok) (hx : ρ x = .ptr i b off := by exact rfl) (hi : hp[i]? = some (.box b tb cs) := by exact rfl) (ht : L.look t = some ti := by exact rfl) (ha : ti.agg = true := by exact rfl) (hl : Nat.ble (off + ti.size) cs.length = true := by exact rfl) (he : evl ((cs.drop off).take ti.size) = some l := by exact rfl) : LO P F ⟨d, .load t x, ty, pos, aft, g⟩ ρ hp K := v_load_box hL hx hi ht ha hl he h
theorem zL3 {t : TypeId} {ti : TI} {x : Operand} {off : Nat} {cs : List T} {v : T} (h : K (.c v) hp) (hL : TabOk P L := by exact tok) (hx : ρ x = .c (.pin cs off) := by exact rfl) (ht : L.look t = some ti := by exact rfl) (ha : ti.agg = false := by exact rfl) (hv : cs[off]? = some v := by exact rfl) : LO P F ⟨d, .load t x, ty, pos, aft, g⟩ ρ hp K := lo_load_pin1 hL hx ht ha hv h
/-- the element of a row that came in; what it is must be told -/
theorem zEl {t : TypeId} {ti : TI} {x : Operand} {off : Nat} {cs ts : List T} (hts : (cs.drop off).take ti.size = ts) (hl : ts.length = ti.size) (h : K (.c (.agg ts)) hp) (hL : TabOk P L := by exact tok) (hx : ρ x = .c (.pin cs off) := by exact rfl) (ht : L.look t = some ti := by exact rfl) (ha : ti.agg = true := by exact rfl) : LO P F ⟨d, .load t x, ty, pos, aft, g⟩ ρ hp K := lo_load_pin hL hx ht ha hts hl h
theorem zLp {t : TypeId} {ti : TI} {x : Operand} {off : Nat} {cs ts : List T} (h : K (.c (.agg ts)) hp) (hL : TabOk P L := by exact tok) (hx : ρ x = .c (.pin cs off) := by exact rfl) (ht : L.look t = some ti := by exact rfl) (ha : ti.agg = true := by exact rfl) (hts : evl ((cs.drop off).take ti.size) = some ts := by exact rfl) (hl : lenU ts = some ti.size := by exact rfl) : LO P F ⟨d, .load t x, ty, pos, aft, g⟩ ρ hp K := lo_load_pin hL hx ht ha (evl_eq hts).symm (lenU_eq hl).symm h
theorem zEl1 {t : TypeId} {ti : TI} {x : Operand} {off : Nat} {cs : List T} {v : T} (hv : cs[off]? = some v) (h : K (.c v) hp) (hL : TabOk P L := by exact tok) (hx : ρ x = .c (.pin cs off) := by exact rfl) (ht : L.look t = some ti := by exact rfl) (ha : ti.agg = false := by exact rfl) : LO P F ⟨d, .load t x, ty, pos, aft, g⟩ ρ hp K := lo_load_pin1 hL hx ht ha hv h
theorem zIx {t el : TypeId} {ti te : TI} {x y : Operand} {n sz : Nat} {cs : List T} {k : IntKind} {z : Int} (j : Nat) (hj : j < n) (h : K (.c (.pin cs (j * sz))) hp) (hL : TabOk P L := by exact tok) (hx : ρ x = .c (.row n sz cs) := by exact rfl) (hy : ρ y = .c (.lit (.int k z)) := by exact rfl) (hz : z = (j : Int) := by exact rfl) (ht : L.look t = some ti := by exact rfl) (hd : ti.d = .slice el := by exact rfl) (hte : L.look el = some te := by exact rfl) (hsz : te.size = sz := by exact rfl) : LO P F ⟨d, .indexAddr t x y, ty, pos, aft, g⟩ ρ hp K := lo_idx hL j hx hy hz hj ht hd hte hsz h
theorem zF1 {s : TypeId} {ti : TI} {fs : List (Nat × Nat)} {k o sz : Nat} {x : Operand} {i b off : Nat} (h : K (.ptr i b (off + o)) hp) (hL : TabOk P L := by exact tok) (hx : ρ x = .ptr i b off := by exact rfl) (ht : L.look s = some ti := by exact rfl) (hd : ti.d = .struct fs := by exact rfl) (hk : fs[k]? = some (o, sz) := by exact rfl) (h0 : Nat.beq sz 0 = false := by exact rfl) : LO P F ⟨d, .fieldAddr s x k, ty, pos, aft, g⟩ ρ hp K := lo_fld hL hx ht hd hk h0 h
theorem zF2 {s : TypeId} {ti : TI} {fs : List (Nat × Nat)} {k o sz : Nat} {x : Operand} {cs : List T} {off : Nat} (h : K (.c (.pin cs (off + o))) hp) (hL : TabOk P L := by exact tok) (hx : ρ x = .c (.pin cs off) := by exact rfl) (ht : L.look s = some ti := by exact rfl) (hd : ti.d = .struct fs := by exact rfl) (hk : fs[k]? = some (o, sz) := by exact rfl) (h0 : Nat.beq sz 0 = false := by exact rfl) : LO P F ⟨d, .fieldAddr s x k, ty, pos, aft, g⟩ ρ hp K := lo_fld_pin hL hx ht hd hk h0 h
theorem zF3 {s : TypeId} {ti : TI} {fs : List (Nat × Nat)} {k o sz : Nat} {x : Operand} {i : Nat} {v : Value} {off : Nat} (h : K (.eptr i v (off + o)) hp) (hL : TabOk P L := by exact tok) (hx : ρ x = .eptr i v off := by exact rfl) (ht : L.look s = some ti := by exact rfl) (hd : ti.d = .struct fs := by exact rfl) (hk : fs[k]? = some (o, sz) := by exact rfl) (h0 : Nat.beq sz 0 = false := by exact rfl) : LO P F ⟨d, .fieldAddr s x k, ty, pos, aft, g⟩ ρ hp K := lo_fld_e hL hx ht hd hk h0 h
theorem zN1 {t el : TypeId} {ti : TI} {x : Operand} {n sz : Nat} {cs : List T} (h : n ≤ 9223372036854775807 → K (.c (.lit (.int .i64 n))) hp) (hL : TabOk P L := by exact tok) (hx : ρ x = .c (.row n sz cs) := by exact rfl) (ht : L.look t = some ti := by exact rfl) (hd : ti.d = .slice el := by exact rfl) : LO P F ⟨d, .call { callee := .builtin .len, args := #[x], argTypes := #[t] }, ty, pos, aft, g⟩ ρ hp K := lo_len hL hx ht hd h
theorem zN2 {t el : TypeId} {ti : TI} {x : Operand} {i n sz : Nat} {v : Value} {e' : TypeId} {cs : List T} (h : n ≤ 9223372036854775807 → K (.c (.lit (.int .i64 n))) hp) (hL : TabOk P L := by exact tok) (hx : ρ x = .own i v := by exact rfl) (hi : hp[i]? = some (.row v e' sz n cs) := by exact rfl) (ht : L.look t = some ti := by exact rfl) (hd : ti.d = .slice el := by exact rfl) : LO P F ⟨d, .call { callee := .builtin .len, args := #[x], argTypes := #[t] }, ty, pos, aft, g⟩ ρ hp K := lo_len_own hL hx hi ht hd h
theorem zN3 {t : TypeId} {ti : TI} {x : Operand} {s : ByteArray} (h : K (.c (.lit (.int .i64 s.size))) hp) (hL : TabOk P L := by exact tok) (hx : ρ x = .c (.lit (.string s)) := by exact rfl) (ht : L.look t = some ti := by exact rfl) (hd : ti.d = .string := by exact rfl) : LO P F ⟨d, .call { callee := .builtin .len, args := #[x], argTypes := #[t] }, ty, pos, aft, g⟩ ρ hp K := lo_len_str hL hx ht hd h
theorem zN4 {t el : TypeId} {ti : TI} {x : Operand} (h : K (.c (.lit (.int .i64 0))) hp) (hL : TabOk P L := by exact tok) (hx : ρ x = .c (.lit (.slice none 0 0)) := by exact rfl) (ht : L.look t = some ti := by exact rfl) (hd : ti.d = .slice el := by exact rfl) : LO P F ⟨d, .call { callee := .builtin .len, args := #[x], argTypes := #[t] }, ty, pos, aft, g⟩ ρ hp K := lo_len_nil hL hx ht hd h
theorem zAp {t el : TypeId} {ti te : TI} {x y : Operand} {i n m sz : Nat} {v : Value} {cs ts : List T} {hp' : Value → List Blk} (h : ∀ v', K (.own i v') (hp' v')) (hL : TabOk P L := by exact tok) (hx : ρ x = .own i v := by exact rfl) (hi : hp[i]? = some (.row v el sz n cs) := by exact rfl) (hy : ρ y = .c (.row m sz ts) := by exact rfl) (ht : L.look t = some ti := by exact rfl) (hd : ti.d = .slice el := by exact rfl) (hte : L.look el = some te := by exact rfl) (hsz : te.size = sz := by exact rfl) (hf : ∀ v', evl (hp.set i (.row v' el sz (n + m) (cs ++ ts))) = some (hp' v') := by exact fun _ => rfl)
    (h63 : n + m ≤ maxLen := by first | (simp only [maxLen]; omega) | (simp only [maxLen]; dsimp only at *; omega)) (hbytes : (n + m) * te.bytes ≤ 140737488355328 := by first | (simp only []; omega) | (dsimp only at *; omega)) : LO P F ⟨d, .call { callee := .builtin .append, args := #[x, y], argTypes := #[t, t] }, ty, pos, aft, g⟩ ρ hp K := v_app hL hx hi hy ht hd hte hsz hf h63 hbytes h
theorem zBd {t : TypeId} {ti : TI} {fs : List (Nat × Nat)} {parts : List (Nat × Operand)} {cs cs' : List AV} (h : K (.agg cs') hp) (hL : TabOk P L := by exact tok) (ht : L.look t = some ti := by exact rfl) (hd : ti.d = .struct fs := by exact rfl) (hf : fillA (fun i => fs[i]?) (ti.zero.map fun v => .c (.lit v)) (parts.map fun p => (p.1, ρ p.2)) = some cs := by exact rfl) (he : evl cs = some cs' := by exact rfl) : LO P F ⟨d, .build t parts.toArray, ty, pos, aft, g⟩ ρ hp K := v_build hL ht hd hf he h
theorem zBs {t el : TypeId} {ti te : TI} {n : Nat} {parts : List (Nat × Operand)} {cs cs' : List AV} {ts : List T} (h : K (.c (.row n te.size ts)) hp) (hL : TabOk P L := by exact tok) (ht : L.look t = some ti := by exact rfl) (hd : ti.d = .slice el := by exact rfl) (hte : L.look el = some te := by exact rfl) (h0 : Nat.ble 1 te.size = true := by exact rfl) (hn : Nat.ble (n * te.size) 16777216 = true := by exact rfl)
    (hf : fillA (fun i => some (i * te.size, te.size)) ((List.range (n * te.size)).map fun j => .c (.lit (te.zero.getD (j % te.size) undef))) (parts.map fun p => (p.1, ρ p.2)) = some cs := by exact rfl) (he : evl cs = some cs' := by exact rfl) (hz : Rzs [] cs' ts := by repeat (first | exact rzs_nil | apply rzs_cons | exact rz_c | exact rz_nil rfl | apply rz_agg | exact rz_own rfl | apply rz_fn | exact rz_ptr rfl | apply rz_tup)) : LO P F ⟨d, .buildSlice t n parts.toArray, ty, pos, aft, g⟩ ρ hp K := v_bslice hL ht hd hte h0 hn hf he hz h
theorem zFn {f : Fn} {cap : List Operand} {l : List AV} (h : K (.fn f l) hp) (he : evl (cap.map ρ) = some l := by exact rfl) : LO P F ⟨d, .makeFunc f #[] cap.toArray, ty, pos, aft, g⟩ ρ hp K := v_func he h
theorem zCall {f : FuncId} {y : Operand} {xs : List Operand} {ats : Array TypeId} {ts : List T} {R : T → Prop} {cap : List AV} (hc : AF P f ts R) (h : ∀ r, R r → K (.c r) hp) (hy : ρ y = .fn (.func f) cap := by exact rfl) (hx : Rzs [] (xs.map ρ ++ cap) ts := by repeat (first | exact rzs_nil | apply rzs_cons | exact rz_c | exact rz_nil rfl | apply rz_agg | exact rz_own rfl | apply rz_fn | exact rz_ptr rfl | apply rz_tup)) : LO P F ⟨d, .call { callee := .value y, args := xs.toArray, argTypes := ats }, ty, pos, aft, g⟩ ρ hp K := lo_call hc hy hx h
variable {t t' : TypeId} {x y : Operand} {k : IntKind} {a b : Int} {s s' : ByteArray}
theorem zInc {n : Nat} (h : K (.c (.lit (.int .i64 ((n + 1 : Nat) : Int)))) hp) (hx : ρ x = .c (.lit (.int .i64 n)) := by exact rfl) (hy : ρ y = .c (.lit (.int .i64 1)) := by exact rfl) (hb : n < 9223372036854775807 := by first | omega | (dsimp only at *; omega)) : LO P F ⟨d, .binOp .add t x y t', ty, pos, aft, g⟩ ρ hp K := lo_inc hx hy hb h
theorem zNot {c : Bool} (h : K (.c (.lit (.bool !c))) hp) (hx : ρ x = .c (.lit (.bool c)) := by exact rfl) : LO P F ⟨d, .unOp .not t x, ty, pos, aft, g⟩ ρ hp K := lo_not hx h
theorem zC1 (h : K (.c (.lit (.bool (decide (a < b))))) hp) (hx : ρ x = .c (.lit (.int k a)) := by exact rfl) (hy : ρ y = .c (.lit (.int k b)) := by exact rfl) : LO P F ⟨d, .binOp .lss t x y t', ty, pos, aft, g⟩ ρ hp K := lo_lss hx hy h
theorem zC2 (h : K (.c (.lit (.bool (decide (a ≤ b))))) hp) (hx : ρ x = .c (.lit (.int k a)) := by exact rfl) (hy : ρ y = .c (.lit (.int k b)) := by exact rfl) : LO P F ⟨d, .binOp .leq t x y t', ty, pos, aft, g⟩ ρ hp K := lo_leq hx hy h
theorem zC3 (h : K (.c (.lit (.bool (decide (b < a))))) hp) (hx : ρ x = .c (.lit (.int k a)) := by exact rfl) (hy : ρ y = .c (.lit (.int k b)) := by exact rfl) : LO P F ⟨d, .binOp .gtr t x y t', ty, pos, aft, g⟩ ρ hp K := lo_gtr hx hy h
theorem zC4 (h : K (.c (.lit (.bool (decide (b ≤ a))))) hp) (hx : ρ x = .c (.lit (.int k a)) := by exact rfl) (hy : ρ y = .c (.lit (.int k b)) := by exact rfl) : LO P F ⟨d, .binOp .geq t x y t', ty, pos, aft, g⟩ ρ hp K := lo_geq hx hy h
theorem zC5 (h : K (.c (.lit (.bool (decide (a = b))))) hp) (hx : ρ x = .c (.lit (.int k a)) := by exact rfl) (hy : ρ y = .c (.lit (.int k b)) := by exact rfl) : LO P F ⟨d, .binOp .eql t x y t', ty, pos, aft, g⟩ ρ hp K := lo_eql hx hy h
theorem zC6 (h : K (.c (.lit (.bool (!decide (a = b))))) hp) (hx : ρ x = .c (.lit (.int k a)) := by exact rfl) (hy : ρ y = .c (.lit (.int k b)) := by exact rfl) : LO P F ⟨d, .binOp .neq t x y t', ty, pos, aft, g⟩ ρ hp K := lo_neq hx hy h
theorem zS1 (h : K (.c (.lit (.bool (strLt s s')))) hp) (hx : ρ x = .c (.lit (.string s)) := by exact rfl) (hy : ρ y = .c (.lit (.string s')) := by exact rfl) : LO P F ⟨d, .binOp .lss t x y t', ty, pos, aft, g⟩ ρ hp K := lo_lts hx hy h
theorem zS2 (h : K (.c (.lit (.bool (strLt s s' || decide (s = s'))))) hp) (hx : ρ x = .c (.lit (.string s)) := by exact rfl) (hy : ρ y = .c (.lit (.string s')) := by exact rfl) : LO P F ⟨d, .binOp .leq t x y t', ty, pos, aft, g⟩ ρ hp K := lo_les hx hy h
theorem zS3 (h : K (.c (.lit (.bool (!(strLt s s' || decide (s = s')))))) hp) (hx : ρ x = .c (.lit (.string s)) := by exact rfl) (hy : ρ y = .c (.lit (.string s')) := by exact rfl) : LO P F ⟨d, .binOp .gtr t x y t', ty, pos, aft, g⟩ ρ hp K := lo_gts hx hy h
theorem zS4 (h : K (.c (.lit (.bool (!strLt s s')))) hp) (hx : ρ x = .c (.lit (.string s)) := by exact rfl) (hy : ρ y = .c (.lit (.string s')) := by exact rfl) : LO P F ⟨d, .binOp .geq t x y t', ty, pos, aft, g⟩ ρ hp K := lo_ges hx hy h
theorem zS5 (h : K (.c (.lit (.bool (decide (s = s'))))) hp) (hx : ρ x = .c (.lit (.string s)) := by exact rfl) (hy : ρ y = .c (.lit (.string s')) := by exact rfl) : LO P F ⟨d, .binOp .eql t x y t', ty, pos, aft, g⟩ ρ hp K := lo_eqs hx hy h
theorem zS6 (h : K (.c (.lit (.bool (!decide (s = s'))))) hp) (hx : ρ x = .c (.lit (.string s)) := by exact rfl) (hy : ρ y = .c (.lit (.string s')) := by exact rfl) : LO P F ⟨d, .binOp .neq t x y t', ty, pos, aft, g⟩ ρ hp K := lo_nes hx hy h
end
section
variable {L : Tab} {σ : AS} {res : List ResultVar} {R : T → Prop} {ts : List T}
theorem zR (hR : R (outT ts)) (h : Outs L σ res ts := by repeat (first | exact outs_nil | apply outs_cons | (apply out_tmp (v := .c _); (focus exact rfl)) | (apply out_tmp (v := .own _ _); (focus exact rfl)) | (apply out_tmp (v := .agg _); (focus exact rfl)) | (apply out_tmp (v := .ptr _ _ _); (focus exact rfl)) | (apply out_tmp (v := .fn _ _); (focus exact rfl)) | (apply out_agg; (focus exact rfl); (focus exact rfl); (focus exact rfl); (focus exact rfl); (focus exact rfl); (focus exact rfl)) | (apply out_one; (focus exact rfl); (focus exact rfl); (focus exact rfl); (focus exact rfl); (focus exact rfl)) | exact rzs_nil | apply rzs_cons | exact rz_c | exact rz_nil rfl | apply rz_agg | exact rz_own rfl | apply rz_fn | exact rz_ptr rfl | apply rz_tup)) : Fin L res R .ret σ := fin_r h hR
theorem zQ (hR : R (outT ts)) (h : Outs L σ res ts := by repeat (first | exact outs_nil | apply outs_cons | (apply out_tmp (v := .c _); (focus exact rfl)) | (apply out_tmp (v := .own _ _); (focus exact rfl)) | (apply out_tmp (v := .agg _); (focus exact rfl)) | (apply out_tmp (v := .ptr _ _ _); (focus exact rfl)) | (apply out_tmp (v := .fn _ _); (focus exact rfl)) | (apply out_agg; (focus exact rfl); (focus exact rfl); (focus exact rfl); (focus exact rfl); (focus exact rfl); (focus exact rfl)) | (apply out_one; (focus exact rfl); (focus exact rfl); (focus exact rfl); (focus exact rfl); (focus exact rfl)) | exact rzs_nil | apply rzs_cons | exact rz_c | exact rz_nil rfl | apply rz_agg | exact rz_own rfl | apply rz_fn | exact rz_ptr rfl | apply rz_tup)) : Fin L res R .normal σ := fin_n h hR
end
end Go.Proofs.YtadlmkgeplnemaaDoor
namespace Go.Proofs.YtadlmkgeplnemaaDoor
open Go.RowKit
section
variable {P : Program} {F : Frm} {L : Tab} {d : Option Tmp} {ty : TypeId} {pos : String} {aft : Array Edge} {g : Option (Nat × Bool)} {ρ : Operand → AV} {hp : List Blk} {K : AV → List Blk → Prop}
theorem RTs.set {M : Mm} : ∀ {ts : List T} {xs : List Value} (k : Nat) {t : T} {x : Value}, RTs M ts xs → RT M t x → RTs M (ts.set k t) (xs.set k x)
  | [], _, _, _, _, h, _ => by simp only [RTs] at h; subst h; simp [RTs]
  | a :: ts, _, 0, _, _, h, ht => by
    simp only [RTs] at h
    obtain ⟨x, r, rfl, h1, h2⟩ := h
    simp only [List.set_cons_zero, RTs]
    exact ⟨_, _, rfl, ht, h2⟩
  | a :: ts, _, k + 1, _, _, h, ht => by
    simp only [RTs] at h
    obtain ⟨x, r, rfl, h1, h2⟩ := h
    simp only [List.set_cons_succ, RTs]
    exact ⟨_, _, rfl, h1, RTs.set k h2 ht⟩
theorem RTs.spl {M : Mm} : ∀ {vs cs : List T} {us xs : List Value} {k : Nat}, RTs M cs xs → RTs M vs us → RTs M (spl cs k vs) (Go.Proofs.YtadlmkgeplnemaaDoor.spl xs k us)
  | [], _, _, _, _, h, h' => by simp only [RTs] at h'; subst h'; exact h
  | v :: vs, cs, _, xs, k, h, h' => by
    simp only [RTs] at h'
    obtain ⟨x, r, rfl, h1, h2⟩ := h'
    exact RTs.spl (vs := vs) (cs := cs.set k v) (us := r) (xs := xs.set k x) (k := k + 1) (RTs.set k h h1) h2
end
end Go.Proofs.YtadlmkgeplnemaaDoor
namespace Go.Proofs.YtadlmkgeplnemaaDoor
open Go.RowKit
section
variable {P : Program} {F : Frm} {ops : Array Oper} {md : Region.Mode} {N : Nat} {cls : Nat → Nat}
theorem WO.mono {K K' : (Nat → AV) → List Blk → Prop} : ∀ (r : List Nat) {τ : Nat → AV} {hp : List Blk}, (∀ τ hp, K τ hp → K' τ hp) → WO P F ops N cls K r τ hp → WO P F ops N cls K' r τ hp
  | [], τ, hp, h, hw => h τ hp hw
  | _ :: r, _, _, h, hw => opA_mono (fun _ _ h' => WO.mono r h h') hw
end
end Go.Proofs.YtadlmkgeplnemaaDoor
namespace Go.Proofs.YtadlmkgeplnemaaDoor
open Go.RowKit
section
variable {P : Program} {F : Frm} {L : Tab} {d : Option Tmp} {ty : TypeId} {pos : String} {aft : Array Edge} {g : Option (Nat × Bool)} {ρ : Operand → AV} {hp : List Blk} {K : AV → List Blk → Prop}
theorem zSub {t t' : TypeId} {x y : Operand} {a b : Int} (h : K (.c (.lit (.int .i64 (a - b)))) hp) (hx : ρ x = .c (.lit (.int .i64 a)) := by exact rfl) (hy : ρ y = .c (.lit (.int .i64 b)) := by exact rfl) (hr : -9223372036854775808 ≤ a - b ∧ a - b ≤ 9223372036854775807 := by first | omega | (dsimp only at *; omega)) : LO P F ⟨d, .binOp .sub t x y t', ty, pos, aft, g⟩ ρ hp K :=
  lo_sub hx hy (IntWalk.i64_in _ hr) h
end
def strTs (s : ByteArray) : List T := [.lit (.string s)]
def strRow (l : List ByteArray) : T := .row l.length 1 (l.flatMap strTs)
theorem str_at {l : List ByteArray} {k : Nat} {s : ByteArray} (h : l[k]? = some s) : (l.flatMap strTs)[k]? = some (.lit (.string s)) := by
  have := flat_get strTs 1 (fun _ => rfl) h (j := 0) (by omega)
  simpa [strTs] using this
end Go.Proofs.YtadlmkgeplnemaaDoor
namespace Go.Proofs.YtadlmkgeplnemaaDoor
open Go.RowKit
def isPtr (P : Program) (t : TypeId) : Bool := match P.underlying t with | some (.pointer _) => true | _ => false
theorem isPtr_eq {P : Program} {t : TypeId} (h : isPtr P t = true) : ∃ e, P.underlying t = some (.pointer e) := by
  unfold isPtr at h
  split at h
  · exact ⟨_, by assumption⟩
  · cases h
theorem run_nil {P : Program} {t : TypeId} (h : isPtr P t = true) (a : Option Addr) (w : World) : (Op.equal t (.pointer a) (.pointer none)).run P w = .ok a.isNone w := by
  obtain ⟨e, he⟩ := isPtr_eq h
  rw [Op.equal, show Op.maxDepth = 9999 + 1 from rfl, Op.equalIn]
  simp only [Sem.run_bind, run_underlying he, Result.andThen_ok]
  cases a <;> rfl
theorem guard_ptr {P : Program} {op : BinOp} {t : TypeId} {x y : Operand} {a b : Option Addr} (w : World) : (eqGuard op t x y (.pointer a) (.pointer b)).run P w = .ok () w := by
  unfold eqGuard; simp
section
variable {P : Program} {F : Frm} {L : Tab} {d : Option Tmp} {ty : TypeId} {pos : String} {aft : Array Edge} {g : Option (Nat × Bool)} {ρ : Operand → AV} {hp : List Blk} {K : AV → List Blk → Prop}
theorem lo_nil {t t' : TypeId} {x y : Operand} {v : AV} {c : Bool} (hx : ρ x = v) (hv : ∀ M u, RA M v u → ∃ a : Option Addr, u = .pointer a ∧ a.isNone = c) (hy : ρ y = .c (.lit (.pointer none))) (hu : isPtr P t = true) (h : K (.c (.lit (.bool c))) hp) : LO P F ⟨d, .binOp .eql t x y t', ty, pos, aft, g⟩ ρ hp K := by
  refine LO.same (fun M e w he hh => ?_) h
  have h1 := he x (by first | (simp [Op.operands]; done) | simp [Op.operands, Call.operands])
  rw [hx] at h1
  obtain ⟨a, ha, hc⟩ := hv M _ h1
  have h2 := he y (by first | (simp [Op.operands]; done) | simp [Op.operands, Call.operands])
  rw [hy] at h2
  simp only [RA, RT] at h2
  refine ⟨.bool c, ?_, by simp only [RA, RT]⟩
  simp [execOp, ha, h2, guard_ptr, binOp, run_nil hu, hc]
theorem lo_nnil {t t' : TypeId} {x y : Operand} {v : AV} {c : Bool} (hx : ρ x = v) (hv : ∀ M u, RA M v u → ∃ a : Option Addr, u = .pointer a ∧ a.isNone = c) (hy : ρ y = .c (.lit (.pointer none))) (hu : isPtr P t = true) (h : K (.c (.lit (.bool (!c)))) hp) : LO P F ⟨d, .binOp .neq t x y t', ty, pos, aft, g⟩ ρ hp K := by
  refine LO.same (fun M e w he hh => ?_) h
  have h1 := he x (by first | (simp [Op.operands]; done) | simp [Op.operands, Call.operands])
  rw [hx] at h1
  obtain ⟨a, ha, hc⟩ := hv M _ h1
  have h2 := he y (by first | (simp [Op.operands]; done) | simp [Op.operands, Call.operands])
  rw [hy] at h2
  simp only [RA, RT] at h2
  refine ⟨.bool (!c), ?_, by simp only [RA, RT]⟩
  simp [execOp, ha, h2, guard_ptr, binOp, run_nil hu, hc]
theorem pin_some (cs : List T) (off : Nat) (M : Mm) (u : Value) (h : RA M (.c (.pin cs off)) u) : ∃ a : Option Addr, u = .pointer a ∧ a.isNone = false := by
  simp only [RA, RT] at h
  obtain ⟨ad, xs, rfl, _⟩ := h
  exact ⟨_, rfl, rfl⟩
theorem nil_none (M : Mm) (u : Value) (h : RA M (.c (.lit (.pointer none))) u) : ∃ a : Option Addr, u = .pointer a ∧ a.isNone = true := by
  simp only [RA, RT] at h
  exact ⟨_, h, rfl⟩
theorem ptr_some (i b off : Nat) (M : Mm) (u : Value) (h : RA M (.ptr i b off) u) : ∃ a : Option Addr, u = .pointer a ∧ a.isNone = false := by
  simp only [RA] at h
  exact ⟨_, h, rfl⟩
variable {t t' : TypeId} {x y : Operand} {cs : List T} {off i b : Nat}
theorem zQ1 (h : K (.c (.lit (.bool false))) hp) (hx : ρ x = .c (.pin cs off) := by exact rfl) (hy : ρ y = .c (.lit (.pointer none)) := by exact rfl) (hu : isPtr P t = true := by kernel_rfl) : LO P F ⟨d, .binOp .eql t x y t', ty, pos, aft, g⟩ ρ hp K := lo_nil hx (pin_some cs off) hy hu h
theorem zQ2 (h : K (.c (.lit (.bool true))) hp) (hx : ρ x = .c (.lit (.pointer none)) := by exact rfl) (hy : ρ y = .c (.lit (.pointer none)) := by exact rfl) (hu : isPtr P t = true := by kernel_rfl) : LO P F ⟨d, .binOp .eql t x y t', ty, pos, aft, g⟩ ρ hp K := lo_nil hx nil_none hy hu h
theorem zQ3 (h : K (.c (.lit (.bool false))) hp) (hx : ρ x = .ptr i b off := by exact rfl) (hy : ρ y = .c (.lit (.pointer none)) := by exact rfl) (hu : isPtr P t = true := by kernel_rfl) : LO P F ⟨d, .binOp .eql t x y t', ty, pos, aft, g⟩ ρ hp K := lo_nil hx (ptr_some i b off) hy hu h
theorem zQ4 (h : K (.c (.lit (.bool true))) hp) (hx : ρ x = .c (.pin cs off) := by exact rfl) (hy : ρ y = .c (.lit (.pointer none)) := by exact rfl) (hu : isPtr P t = true := by kernel_rfl) : LO P F ⟨d, .binOp .neq t x y t', ty, pos, aft, g⟩ ρ hp K := lo_nnil hx (pin_some cs off) hy hu h
theorem zQ5 (h : K (.c (.lit (.bool false))) hp) (hx : ρ x = .c (.lit (.pointer none)) := by exact rfl) (hy : ρ y = .c (.lit (.pointer none)) := by exact rfl) (hu : isPtr P t = true := by kernel_rfl) : LO P F ⟨d, .binOp .neq t x y t', ty, pos, aft, g⟩ ρ hp K := lo_nnil hx nil_none hy hu h
theorem zQ6 (h : K (.c (.lit (.bool true))) hp) (hx : ρ x = .ptr i b off := by exact rfl) (hy : ρ y = .c (.lit (.pointer none)) := by exact rfl) (hu : isPtr P t = true := by kernel_rfl) : LO P F ⟨d, .binOp .neq t x y t', ty, pos, aft, g⟩ ρ hp K := lo_nnil hx (ptr_some i b off) hy hu h
theorem lo_nck {v : AV} (hx : ρ x = v) (hv : ∀ M u, RA M v u → ∃ a : Option Addr, u = .pointer a ∧ a.isNone = false) (h : K v hp) : LO P F ⟨d, .nilCheck x, ty, pos, aft, g⟩ ρ hp K := by
  refine LO.same (fun M e w he hh => ?_) h
  have h1 := he x (by first | (simp [Op.operands]; done) | simp [Op.operands, Call.operands])
  rw [hx] at h1
  obtain ⟨a, ha, hc⟩ := hv M _ h1
  cases a with
  | none => cases hc
  | some a => exact ⟨.pointer (some a), by simp [execOp, ha], by rw [← ha]; exact h1⟩
theorem zK1 (h : K (.c (.pin cs off)) hp) (hx : ρ x = .c (.pin cs off) := by exact rfl) : LO P F ⟨d, .nilCheck x, ty, pos, aft, g⟩ ρ hp K := lo_nck hx (pin_some cs off) h
theorem zK2 (h : K (.ptr i b off) hp) (hx : ρ x = .ptr i b off := by exact rfl) : LO P F ⟨d, .nilCheck x, ty, pos, aft, g⟩ ρ hp K := lo_nck hx (ptr_some i b off) h
end
end Go.Proofs.YtadlmkgeplnemaaDoor
namespace Go.Proofs.YtadlmkgeplnemaaDoor
open Go.RowKit
structure Hold (G : Prop) : Prop where
  out : G
/-- operations and control, asq far asq they are plain -/
theorem gG {G G' : Prop} (h : G') (e : Hold G' → G := by
    intro h
    first | refine zNil ?_ | refine zOp ?_ | refine zOpn ?_ | refine zNo ?_ | refine zNon ?_ | refine zUn ?_ | refine zUnn ?_ | refine zYes ?_ | refine zYesn ?_ | (refine zkL ?_; first | refine zL1 ?_ | refine zL2 ?_ | refine zL3 ?_ | refine zLp ?_) | refine zM ?_ | (refine zkF ?_; first | refine zF1 ?_ | refine zF2 ?_ | refine zF3 ?_) | refine zA ?_ | (refine zkB ?_; first | refine zC5 ?_ | refine zC6 ?_ | refine zC1 ?_ | refine zC2 ?_ | refine zC3 ?_ | refine zC4 ?_ | refine zS5 ?_ | refine zS6 ?_ | refine zS1 ?_ | refine zS2 ?_ | refine zS3 ?_ | refine zS4 ?_ | refine zInc ?_ | refine zQ1 ?_ | refine zQ2 ?_ | refine zQ3 ?_ | refine zQ4 ?_ | refine zQ5 ?_ | refine zQ6 ?_) | (refine zkI ?_; first | refine zN3 ?_ | refine zN4 ?_) | refine zS ?_ | refine zPt ?_ | refine zPf ?_ | refine zE ?_ | refine zEA ?_ | refine zNot ?_ | refine zBd ?_ | refine zFn ?_ | refine zK1 ?_ | refine zK2 ?_ | refine zBs ?_ | refine ac_seq ?_ | refine ac_block ?_ | refine ac_region ?_ | refine ac_skip ?_ | refine ac_exit ?_ | refine ac_ret ?_ | refine zT ?_ | refine zF ?_
    repeat (first | refine zNil ?_ | refine zOp ?_ | refine zOpn ?_ | refine zNo ?_ | refine zNon ?_ | refine zUn ?_ | refine zUnn ?_ | refine zYes ?_ | refine zYesn ?_ | (refine zkL ?_; first | refine zL1 ?_ | refine zL2 ?_ | refine zL3 ?_ | refine zLp ?_) | refine zM ?_ | (refine zkF ?_; first | refine zF1 ?_ | refine zF2 ?_ | refine zF3 ?_) | refine zA ?_ | (refine zkB ?_; first | refine zC5 ?_ | refine zC6 ?_ | refine zC1 ?_ | refine zC2 ?_ | refine zC3 ?_ | refine zC4 ?_ | refine zS5 ?_ | refine zS6 ?_ | refine zS1 ?_ | refine zS2 ?_ | refine zS3 ?_ | refine zS4 ?_ | refine zInc ?_ | refine zQ1 ?_ | refine zQ2 ?_ | refine zQ3 ?_ | refine zQ4 ?_ | refine zQ5 ?_ | refine zQ6 ?_) | (refine zkI ?_; first | refine zN3 ?_ | refine zN4 ?_) | refine zS ?_ | refine zPt ?_ | refine zPf ?_ | refine zE ?_ | refine zEA ?_ | refine zNot ?_ | refine zBd ?_ | refine zFn ?_ | refine zK1 ?_ | refine zK2 ?_ | refine zBs ?_ | refine ac_seq ?_ | refine ac_block ?_ | refine ac_region ?_ | refine ac_skip ?_ | refine ac_exit ?_ | refine ac_ret ?_ | refine zT ?_ | refine zF ?_)
    exact h.out) : G := e ⟨h⟩
/-- operations of a region that draws, asq long asq they only look -/
theorem gW {G G' : Prop} (h : G') (e : Hold G' → G := by
    intro h
    first | (apply w_q; (focus exact rfl); (focus exact rfl); focus (intro _; (first | (refine zkL ?_; first | refine zL1 ?_ | refine zL2 ?_ | refine zL3 ?_ | refine zLp ?_) | refine zM ?_ | (refine zkF ?_; first | refine zF1 ?_ | refine zF2 ?_ | refine zF3 ?_) | refine zA ?_ | (refine zkB ?_; first | refine zC5 ?_ | refine zC6 ?_ | refine zC1 ?_ | refine zC2 ?_ | refine zC3 ?_ | refine zC4 ?_ | refine zS5 ?_ | refine zS6 ?_ | refine zS1 ?_ | refine zS2 ?_ | refine zS3 ?_ | refine zS4 ?_ | refine zInc ?_ | refine zQ1 ?_ | refine zQ2 ?_ | refine zQ3 ?_ | refine zQ4 ?_ | refine zQ5 ?_ | refine zQ6 ?_) | (refine zkI ?_; first | refine zN3 ?_ | refine zN4 ?_) | refine zPt ?_ | refine zPf ?_ | refine zE ?_ | refine zEA ?_ | refine zNot ?_ | refine zBd ?_ | refine zBs ?_ | refine zFn ?_ | refine zK1 ?_ | refine zK2 ?_ | (refine zkI ?_; first | refine zN1 (fun _ => ?_) | refine zN2 (fun _ => ?_))); exact det_refl)) | (apply w_p; (focus exact rfl); (focus exact rfl); focus (intro _; (first | (refine zkL ?_; first | refine zL1 ?_ | refine zL2 ?_ | refine zL3 ?_ | refine zLp ?_) | refine zM ?_ | (refine zkF ?_; first | refine zF1 ?_ | refine zF2 ?_ | refine zF3 ?_) | refine zA ?_ | (refine zkB ?_; first | refine zC5 ?_ | refine zC6 ?_ | refine zC1 ?_ | refine zC2 ?_ | refine zC3 ?_ | refine zC4 ?_ | refine zS5 ?_ | refine zS6 ?_ | refine zS1 ?_ | refine zS2 ?_ | refine zS3 ?_ | refine zS4 ?_ | refine zInc ?_ | refine zQ1 ?_ | refine zQ2 ?_ | refine zQ3 ?_ | refine zQ4 ?_ | refine zQ5 ?_ | refine zQ6 ?_) | (refine zkI ?_; first | refine zN3 ?_ | refine zN4 ?_) | refine zPt ?_ | refine zPf ?_ | refine zE ?_ | refine zEA ?_ | refine zNot ?_ | refine zBd ?_ | refine zBs ?_ | refine zFn ?_ | refine zK1 ?_ | refine zK2 ?_ | (refine zkI ?_; first | refine zN1 (fun _ => ?_) | refine zN2 (fun _ => ?_))); exact det_refl)) | (apply w_un; (focus exact rfl); (focus exact rfl); (focus exact rfl); (focus exact rfl)) | (apply w_no; (focus exact rfl); (focus exact rfl); (focus exact rfl); (focus exact rfl); focus (first | rfl | assumption | exact neg_t (by assumption) | exact neg_f (by assumption))) | (apply w_qg; (focus exact rfl); (focus exact rfl); (focus exact rfl); (focus exact rfl); (focus (first | rfl | assumption | exact neg_t (by assumption) | exact neg_f (by assumption))); (focus (intro _; (first | (refine zkL ?_; first | refine zL1 ?_ | refine zL2 ?_ | refine zL3 ?_ | refine zLp ?_) | refine zM ?_ | (refine zkF ?_; first | refine zF1 ?_ | refine zF2 ?_ | refine zF3 ?_) | refine zA ?_ | (refine zkB ?_; first | refine zC5 ?_ | refine zC6 ?_ | refine zC1 ?_ | refine zC2 ?_ | refine zC3 ?_ | refine zC4 ?_ | refine zS5 ?_ | refine zS6 ?_ | refine zS1 ?_ | refine zS2 ?_ | refine zS3 ?_ | refine zS4 ?_ | refine zInc ?_ | refine zQ1 ?_ | refine zQ2 ?_ | refine zQ3 ?_ | refine zQ4 ?_ | refine zQ5 ?_ | refine zQ6 ?_) | (refine zkI ?_; first | refine zN3 ?_ | refine zN4 ?_) | refine zPt ?_ | refine zPf ?_ | refine zE ?_ | refine zEA ?_ | refine zNot ?_ | refine zBd ?_ | refine zBs ?_ | refine zFn ?_ | refine zK1 ?_ | refine zK2 ?_ | (refine zkI ?_; first | refine zN1 (fun _ => ?_) | refine zN2 (fun _ => ?_))); exact det_refl)))
    repeat (first | (apply w_q; (focus exact rfl); (focus exact rfl); focus (intro _; (first | (refine zkL ?_; first | refine zL1 ?_ | refine zL2 ?_ | refine zL3 ?_ | refine zLp ?_) | refine zM ?_ | (refine zkF ?_; first | refine zF1 ?_ | refine zF2 ?_ | refine zF3 ?_) | refine zA ?_ | (refine zkB ?_; first | refine zC5 ?_ | refine zC6 ?_ | refine zC1 ?_ | refine zC2 ?_ | refine zC3 ?_ | refine zC4 ?_ | refine zS5 ?_ | refine zS6 ?_ | refine zS1 ?_ | refine zS2 ?_ | refine zS3 ?_ | refine zS4 ?_ | refine zInc ?_ | refine zQ1 ?_ | refine zQ2 ?_ | refine zQ3 ?_ | refine zQ4 ?_ | refine zQ5 ?_ | refine zQ6 ?_) | (refine zkI ?_; first | refine zN3 ?_ | refine zN4 ?_) | refine zPt ?_ | refine zPf ?_ | refine zE ?_ | refine zEA ?_ | refine zNot ?_ | refine zBd ?_ | refine zBs ?_ | refine zFn ?_ | refine zK1 ?_ | refine zK2 ?_ | (refine zkI ?_; first | refine zN1 (fun _ => ?_) | refine zN2 (fun _ => ?_))); exact det_refl)) | (apply w_p; (focus exact rfl); (focus exact rfl); focus (intro _; (first | (refine zkL ?_; first | refine zL1 ?_ | refine zL2 ?_ | refine zL3 ?_ | refine zLp ?_) | refine zM ?_ | (refine zkF ?_; first | refine zF1 ?_ | refine zF2 ?_ | refine zF3 ?_) | refine zA ?_ | (refine zkB ?_; first | refine zC5 ?_ | refine zC6 ?_ | refine zC1 ?_ | refine zC2 ?_ | refine zC3 ?_ | refine zC4 ?_ | refine zS5 ?_ | refine zS6 ?_ | refine zS1 ?_ | refine zS2 ?_ | refine zS3 ?_ | refine zS4 ?_ | refine zInc ?_ | refine zQ1 ?_ | refine zQ2 ?_ | refine zQ3 ?_ | refine zQ4 ?_ | refine zQ5 ?_ | refine zQ6 ?_) | (refine zkI ?_; first | refine zN3 ?_ | refine zN4 ?_) | refine zPt ?_ | refine zPf ?_ | refine zE ?_ | refine zEA ?_ | refine zNot ?_ | refine zBd ?_ | refine zBs ?_ | refine zFn ?_ | refine zK1 ?_ | refine zK2 ?_ | (refine zkI ?_; first | refine zN1 (fun _ => ?_) | refine zN2 (fun _ => ?_))); exact det_refl)) | (apply w_un; (focus exact rfl); (focus exact rfl); (focus exact rfl); (focus exact rfl)) | (apply w_no; (focus exact rfl); (focus exact rfl); (focus exact rfl); (focus exact rfl); focus (first | rfl | assumption | exact neg_t (by assumption) | exact neg_f (by assumption))) | (apply w_qg; (focus exact rfl); (focus exact rfl); (focus exact rfl); (focus exact rfl); (focus (first | rfl | assumption | exact neg_t (by assumption) | exact neg_f (by assumption))); (focus (intro _; (first | (refine zkL ?_; first | refine zL1 ?_ | refine zL2 ?_ | refine zL3 ?_ | refine zLp ?_) | refine zM ?_ | (refine zkF ?_; first | refine zF1 ?_ | refine zF2 ?_ | refine zF3 ?_) | refine zA ?_ | (refine zkB ?_; first | refine zC5 ?_ | refine zC6 ?_ | refine zC1 ?_ | refine zC2 ?_ | refine zC3 ?_ | refine zC4 ?_ | refine zS5 ?_ | refine zS6 ?_ | refine zS1 ?_ | refine zS2 ?_ | refine zS3 ?_ | refine zS4 ?_ | refine zInc ?_ | refine zQ1 ?_ | refine zQ2 ?_ | refine zQ3 ?_ | refine zQ4 ?_ | refine zQ5 ?_ | refine zQ6 ?_) | (refine zkI ?_; first | refine zN3 ?_ | refine zN4 ?_) | refine zPt ?_ | refine zPf ?_ | refine zE ?_ | refine zEA ?_ | refine zNot ?_ | refine zBd ?_ | refine zBs ?_ | refine zFn ?_ | refine zK1 ?_ | refine zK2 ?_ | (refine zkI ?_; first | refine zN1 (fun _ => ?_) | refine zN2 (fun _ => ?_))); exact det_refl))))
    exact h.out) : G := e ⟨h⟩
end Go.Proofs.YtadlmkgeplnemaaDoor
namespace Go.Proofs.YtadlmkgeplnemaaDoor
open Go.RowKit
theorem HeapOk.take {F : Frm} {M : Mm} {hp : List Blk} {w : World} (h : HeapOk F M hp w) (k : Nat) : HeapOk F M (hp.take k) w := by
  have hg : ∀ (i : Nat) (x : Blk), (hp.take k)[i]? = some x → hp[i]? = some x := by
    intro i x hx
    rw [List.getElem?_take] at hx
    split at hx
    · exact hx
    · cases hx
  exact ⟨h.mem, h.ext, h.frm, fun i x hx => h.at_ i x (hg i x hx), fun i j x y b hx hy => h.sep i j x y b (hg i x hx) (hg j y hy), fun i x b hx => h.out i x b (hg i x hx)⟩
/-- the function, given values that read so and blocks of the caller's own, returns a value that reads so, the blocks turned -/
def AG (P : Program) (f : FuncId) (asq : List AV) (hs : List Blk) (R : AV → List Blk → Prop) : Prop :=
  Enters P f ∧ ∀ (F : Frm) (M : Mm) (w : World) (vs : List Value), HeapOk F M hs w → RAs M asq vs →
    Calls P f vs.toArray w fun e w' => ∃ v r hs' M', e = .returned v ∧ R r hs' ∧ Ext F.may M M' ∧ HeapOk F M' hs' w' ∧ RA M' r v
theorem AG.imp {P : Program} {f : FuncId} {asq : List AV} {hs : List Blk} {R R' : AV → List Blk → Prop} (h : AG P f asq hs R) (hi : ∀ r hs, R r hs → R' r hs) : AG P f asq hs R' :=
  ⟨h.1, fun F M w vs hM hv => (h.2 F M w vs hM hv).mono fun _ _ ⟨v, r, hs', M', h1, h2, h3⟩ => ⟨v, r, hs', M', h1, hi r hs' h2, h3⟩⟩
def subF (M : Mm) (hs : List Blk) (w : World) (hG : Glob w) (hX : ∀ x ∈ globTab, ¬ ∃ (i : Nat) (y : Blk), hs[i]? = some y ∧ y.blk = some x.1) : Frm := ⟨w, fun b => ∃ (i : Nat) (x : Blk), hs[i]? = some x ∧ x.blk = some b, M, hG, hX⟩
end Go.Proofs.YtadlmkgeplnemaaDoor
namespace Go.Proofs.YtadlmkgeplnemaaDoor
open Go.RowKit
def bs (l : List UInt8) : ByteArray := ⟨l.toArray⟩
theorem bs_app (a b : List UInt8) : bs a ++ bs b = bs (a ++ b) := by
  apply ByteArray.ext
  simp [bs]
theorem bs_self (s : ByteArray) : bs s.data.toList = s := by cases s; rfl
theorem bs_size' (l : List UInt8) : (bs l).size = l.length := by simp [bs, ByteArray.size]
section
variable {P : Program} {F : Frm} {L : Tab} {d : Option Tmp} {ty : TypeId} {pos : String} {aft : Array Edge} {g : Option (Nat × Bool)} {ρ : Operand → AV} {hp : List Blk} {K : AV → List Blk → Prop}
theorem zCatb {t t' : TypeId} {x y : Operand} (a b : List UInt8) (hb : a.length + b.length ≤ 9223372036854775807) (h : K (.c (.lit (.string (bs (a ++ b))))) hp) (hx : ρ x = .c (.lit (.string (bs a))) := by exact rfl) (hy : ρ y = .c (.lit (.string (bs b))) := by exact rfl) : LO P F ⟨d, .binOp .add t x y t', ty, pos, aft, g⟩ ρ hp K :=
  lo_cat hx hy (by rw [bs_size', bs_size']; exact hb) (by rw [bs_app]; exact h)
end
end Go.Proofs.YtadlmkgeplnemaaDoor
namespace Go.Proofs.YtadlmkgeplnemaaDoor
open Go.RowKit
inductive Pl where
  | fin (r : List Nat)
  | fork (p : List Nat) (i : Nat) (a : Pl) (j : Nat) (b : Pl)
def Pl.n : Pl → Nat
  | .fin r => r.length
  | .fork p _ a _ _ => a.n + 1 + p.length
end Go.Proofs.YtadlmkgeplnemaaDoor
namespace Go.Proofs.YtadlmkgeplnemaaDoor
open Go.RowKit
section
variable {P : Program} {F : Frm} {L : Tab} {d : Option Tmp} {ty : TypeId} {pos : String} {aft : Array Edge} {g : Option (Nat × Bool)} {ρ : Operand → AV} {hp : List Blk} {K : AV → List Blk → Prop}
theorem zSix {t : TypeId} {ti : TI} {x y : Operand} {l : List UInt8} {k : IntKind} {a : Int} {b : UInt8} (m : Nat) (hb : l[m]? = some b) (hK : K (.c (.lit (.int .u8 (b.toNat : Int)))) hp) (hz : a = (m : Int) := by exact rfl) (hL : TabOk P L := by exact tok) (hx : ρ x = .c (.lit (.string (bs l))) := by exact rfl) (hy : ρ y = .c (.lit (.int k a)) := by exact rfl) (ht : L.look t = some ti := by exact rfl) (hd : ti.d = .string := by exact rfl) : LO P F ⟨d, .index t x y, ty, pos, aft, g⟩ ρ hp K := by
  refine LO.same (fun M e w he _ => ?_) hK
  have h1 := he x (by simp [Op.operands])
  rw [hx] at h1
  have h2 := he y (by simp [Op.operands])
  rw [hy] at h2
  simp only [RA, RT] at h1 h2
  subst hz
  refine ⟨.int .u8 (b.toNat : Int), ?_, by simp only [RA, RT]⟩
  obtain ⟨hm, hlm⟩ := List.getElem?_eq_some_iff.1 hb
  have hsz : (bs l).size = l.length := bs_size' l
  have hi := run_index_string (P := P) w t (bs l) k (m : Int) (hL.string ht hd)
  rw [dif_pos ⟨by omega, by omega⟩] at hi
  have hel : (bs l)[(m : Int).toNat]'(by omega) = b := by
    subst hlm
    simp [bs, ByteArray.getElem_eq_getElem_data]
  rw [hel] at hi
  simp [execOp, h1, h2, hi]
theorem zSpl {t : TypeId} {ti : TI} {x y : Operand} {l : List UInt8} {k : IntKind} {a : Int} (m : Nat) (hm : m ≤ l.length) (hK : K (.c (.lit (.string (bs (l.drop m))))) hp) (hz : a = (m : Int) := by exact rfl) (hL : TabOk P L := by exact tok) (hx : ρ x = .c (.lit (.string (bs l))) := by exact rfl) (hy : ρ y = .c (.lit (.int k a)) := by exact rfl) (ht : L.look t = some ti := by exact rfl) (hd : ti.d = .string := by exact rfl) : LO P F ⟨d, .slice t x (some y) none none, ty, pos, aft, g⟩ ρ hp K := by
  refine LO.same (fun M e w he _ => ?_) hK
  have h1 := he x (by simp [Op.operands])
  rw [hx] at h1
  have h2 := he y (by simp [Op.operands])
  rw [hy] at h2
  simp only [RA, RT] at h1 h2
  subst hz
  refine ⟨.string (bs (l.drop m)), ?_, by simp only [RA, RT]⟩
  have hsz : (bs l).size = l.length := bs_size' l
  have hb := run_sliceBound (P := P) (w := w) k (m : Int) l.length .sliceB (by omega) (by omega)
  have he : (bs l).extract m l.length = bs (l.drop m) := by
    unfold bs
    rw [ByteArray.extract_mk, List.take_of_length_le (by simp)]
  simp [execOp, Instr.sliceAt, Instr.slice, Instr.sliceBounds, h1, h2, run_underlying (hL.string ht hd), hsz, hb, he]
end
end Go.Proofs.YtadlmkgeplnemaaDoor
namespace Go.Proofs.YtadlmkgeplnemaaDoor
open Go.RowKit
abbrev Rg := Int × Int
def inB (l : List Rg) (v : Int) : Bool := l.any fun r => decide (r.1 ≤ v) && decide (v ≤ r.2)
def Canon (l : List Rg) : Prop := l.Pairwise (fun a b => a.2 + 1 < b.1) ∧ ∀ r ∈ l, r.1 ≤ r.2
theorem Canon.nil : Canon [] := ⟨List.Pairwise.nil, fun _ h => by cases h⟩
theorem Canon.snoc {l : List Rg} {r : Rg} (h : Canon l) (hr : r.1 ≤ r.2) (hl : ∀ q ∈ l, q.2 + 1 < r.1) : Canon (l ++ [r]) :=
  ⟨List.pairwise_append.2 ⟨h.1, List.pairwise_singleton _ _, fun a ha b hb => by rw [List.mem_singleton.1 hb]; exact hl a ha⟩, fun q hq => by
    rcases List.mem_append.1 hq with hq | hq
    · exact h.2 q hq
    · rw [List.mem_singleton.1 hq]; exact hr⟩
theorem Canon.init {l : List Rg} {r : Rg} (h : Canon (l ++ [r])) : Canon l ∧ (∀ q ∈ l, q.2 + 1 < r.1) ∧ r.1 ≤ r.2 := by
  obtain ⟨h1, h2⟩ := h
  obtain ⟨h3, -, h4⟩ := List.pairwise_append.1 h1
  exact ⟨⟨h3, fun q hq => h2 q (List.mem_append_left _ hq)⟩, fun q hq => h4 q hq r (by simp), h2 r (by simp)⟩
theorem Canon.grow {l : List Rg} {r : Rg} (h : Canon (l ++ [r])) {z : Int} (hz : r.2 ≤ z) : Canon (l ++ [(r.1, z)]) := by
  obtain ⟨h1, h2, h3⟩ := h.init
  exact h1.snoc (by simp only; omega) h2
end Go.Proofs.YtadlmkgeplnemaaDoor
namespace Go.Proofs.YtadlmkgeplnemaaDoor
open Go
theorem cut_miss {c : UInt8} {a : List UInt8} (h : c ∉ a) : Lib.cut a [c] = (a, [], false) := by
  unfold Lib.cut
  rw [index_miss h, if_neg (by omega)]
theorem cut_hit {c : UInt8} {a b : List UInt8} (h : c ∉ a) : Lib.cut (a ++ c :: b) [c] = (a, b, true) := by
  unfold Lib.cut
  rw [index_hit h, if_pos (by omega)]
  simp
theorem split_one {c : UInt8} {a : List UInt8} (h : c ∉ a) : Lib.split a [c] = [a] := by
  unfold Lib.split
  rw [Lib.count_one, List.count_eq_zero.2 h, Lib.splitK]
theorem split_cons {c : UInt8} {a b : List UInt8} (h : c ∉ a) : Lib.split (a ++ c :: b) [c] = a :: Lib.split b [c] := by
  unfold Lib.split
  rw [Lib.count_one, List.count_append, List.count_cons_self, List.count_eq_zero.2 h, Lib.count_one, show 0 + (List.count c b + 1) = List.count c b + 1 by omega, Lib.splitK, index_hit h, if_neg (by simp)]
  simp
theorem joinTail_cons (sep x : List UInt8) (r : List (List UInt8)) : Lib.joinTail sep (x :: r) = sep ++ (x ++ Lib.joinTail sep r) := by simp [Lib.joinTail]
theorem split_tail {c : UInt8} : ∀ (x : List UInt8) (r : List (List UInt8)), c ∉ x → (∀ y ∈ r, c ∉ y) → Lib.split (x ++ Lib.joinTail [c] r) [c] = x :: r
  | x, [], hx, _ => by rw [show Lib.joinTail [c] [] = [] from rfl, List.append_nil, split_one hx]
  | x, y :: r, hx, h => by
    rw [joinTail_cons, List.singleton_append, split_cons hx, split_tail y r (h y (by simp)) fun z hz => h z (by simp [hz])]
theorem split_join {c : UInt8} {l : List (List UInt8)} (hl : l ≠ []) (h : ∀ y ∈ l, c ∉ y) : Lib.split (Lib.join l [c]) [c] = l := by
  cases l with
  | nil => exact absurd rfl hl
  | cons x r => rw [Lib.join_cons, split_tail x r (h x (by simp)) fun z hz => h z (by simp [hz])]
/-- all of them, or none -/
def optAll {α β : Type} (f : α → Option β) : List α → Option (List β)
  | [] => some []
  | a :: l => match f a with | none => none | some b => (optAll f l).map (b :: ·)
theorem optAll_some {α β : Type} {f : α → Option β} {g : β → α} : ∀ {l : List β}, (∀ b ∈ l, f (g b) = some b) → optAll f (l.map g) = some l
  | [], _ => rfl
  | b :: l, h => by
    rw [List.map_cons, optAll, h b (by simp), optAll_some fun x hx => h x (by simp [hx])]
    rfl
/-- asq far asq the k-th -/
def OptTo {α β : Type} (f : α → Option β) (l : List α) (k : Nat) (acc : List β) : Prop := optAll f l = (optAll f (l.drop k)).map (acc ++ ·)
theorem optTo_zero {α β : Type} (f : α → Option β) (l : List α) : OptTo f l 0 [] := by unfold OptTo; simp
theorem optTo_yes {α β : Type} {f : α → Option β} {l : List α} {k : Nat} {acc : List β} {a : α} {b : β} (h : OptTo f l k acc) (ha : l[k]? = some a) (hb : f a = some b) : OptTo f l (k + 1) (acc ++ [b]) := by
  obtain ⟨h1, rfl⟩ := List.getElem?_eq_some_iff.1 ha
  unfold OptTo at *
  rw [h, List.drop_eq_getElem_cons h1, optAll, hb]
  cases optAll f (l.drop (k + 1)) <;> simp
theorem optTo_no {α β : Type} {f : α → Option β} {l : List α} {k : Nat} {acc : List β} {a : α} (h : OptTo f l k acc) (ha : l[k]? = some a) (hb : f a = none) : optAll f l = none := by
  obtain ⟨h1, rfl⟩ := List.getElem?_eq_some_iff.1 ha
  unfold OptTo at h
  rw [h, List.drop_eq_getElem_cons h1, optAll, hb]
  rfl
theorem optTo_end {α β : Type} {f : α → Option β} {l : List α} {acc : List β} (h : OptTo f l l.length acc) : optAll f l = some acc := by
  unfold OptTo at h
  rw [h, List.drop_length, optAll]
  simp
def atoiL (s : List UInt8) : Option Int := match Lib.atoiAll s with | .ok v => some v | _ => none
theorem atoiL_itoa {v : Int} (h : 0 ≤ v) (h2 : v ≤ 9223372036854775807) : atoiL (Lib.itoa v) = some v := by unfold atoiL; rw [atoi_itoa h h2]
def both2 (a b : Option Int) : Option (Int × Int) := match a, b with | some x, some y => some (x, y) | _, _ => none
theorem no45 {v : Int} (h : 0 ≤ v) : (45 : UInt8) ∉ Lib.itoa v := fun hm => by
  have := itoa_mem h _ hm
  have h3 : (45 : UInt8).toNat = 45 := rfl
  omega
structure RgN (r : Int × Int) : Prop where
  l1 : 0 ≤ r.1
  h1 : r.1 ≤ 9223372036854775807
  l2 : 0 ≤ r.2
  h2 : r.2 ≤ 9223372036854775807
theorem dec_len : ∀ (k u : Nat), u < 10 ^ (k + 1) → (Lib.decDigits u).length ≤ k + 1
  | 0, u, h => by
    rw [Lib.decDigits, dif_pos (by omega)]
    simp
  | k + 1, u, h => by
    rw [Lib.decDigits]
    split
    · simp
    · have := dec_len k (u / 10) (by rw [Nat.pow_succ] at h; omega)
      rw [List.length_append, List.length_singleton]
      omega
theorem itoa_len {v : Int} (h : 0 ≤ v) (h2 : v ≤ 9223372036854775807) : (Lib.itoa v).length ≤ 19 := by
  rw [itoa_nat h]
  exact dec_len 18 v.toNat (by omega)
theorem lens_len {n : Nat} : ∀ (l : List (List UInt8)), (∀ x ∈ l, x.length ≤ n) → Lib.lens l ≤ n * l.length
  | [], _ => by simp [Lib.lens]
  | x :: l, h => by
    have h1 := lens_len l fun y hy => h y (by simp [hy])
    have h2 := h x (by simp)
    simp only [Lib.lens, List.map_cons, List.sum_cons, List.length_cons] at h1 ⊢
    rw [Nat.mul_succ]
    omega
theorem join_len {n : Nat} {c : UInt8} (l : List (List UInt8)) (h : ∀ x ∈ l, x.length ≤ n) : (Lib.join l [c]).length ≤ (n + 1) * l.length := by
  cases l with
  | nil => simp [Lib.join_nil]
  | cons x r =>
    have h1 := lens_len r fun y hy => h y (by simp [hy])
    have h2 := h x (by simp)
    have e : (x :: r).length = r.length + 1 := rfl
    rw [Lib.join_cons, List.length_append, Lib.joinTail_length, e, Nat.mul_succ, Nat.add_mul]
    simp only [List.length_singleton]
    omega
theorem join_snoc {sep : List UInt8} {l : List (List UInt8)} {x : List UInt8} (h : l ≠ []) : Lib.join (l ++ [x]) sep = Lib.join l sep ++ (sep ++ x) := by
  cases l with
  | nil => exact absurd rfl h
  | cons y l =>
    rw [List.cons_append, Lib.join_cons, Lib.join_cons]
    simp [Lib.joinTail]
end Go.Proofs.YtadlmkgeplnemaaDoor
namespace Go.Proofs.YtadlmkgeplnemaaDoor
open Go
structure Cz where
  kd : Int
  a : Int
  b : Int
def ltrL (k : Int) : List UInt8 := if k = 1 then [103] else if k = 2 then [99] else [108]
def itC (c : Cz) : List UInt8 := ltrL c.kd ++ (Lib.itoa c.a ++ (if c.kd = 2 then 45 :: Lib.itoa c.b else []))
def ctL (l : List Cz) : List UInt8 := Lib.join (l.map itC) [32]
def badC (c : Cz) : Bool := decide (c.kd < 1) || (decide (3 < c.kd) || (decide (c.a < 0) || (decide (c.b < 0) || (!decide (c.b = 0) && !decide (c.kd = 2)))))
def ctV (l : List Cz) : ByteArray × Int := bif l.any badC then (⟨#[]⟩, 3) else (bs (ctL l), 0)
structure CzN (c : Cz) : Prop where
  k1 : 1 ≤ c.kd
  k3 : c.kd ≤ 3
  a0 : 0 ≤ c.a
  a1 : c.a ≤ 9223372036854775807
  b0 : 0 ≤ c.b
  b1 : c.b ≤ 9223372036854775807
  bk : c.b = 0 ∨ c.kd = 2
structure CzI (c : Cz) : Prop where
  a1 : c.a ≤ 9223372036854775807
  b1 : c.b ≤ 9223372036854775807
theorem czN_of {c : Cz} (h : badC c = false) (hi : CzI c) : CzN c := by
  unfold badC at h
  simp only [Bool.or_eq_false_iff, Bool.and_eq_false_iff, decide_eq_false_iff_not, Bool.not_eq_false', decide_eq_true_eq] at h
  obtain ⟨h1, h2, h3, h4, h5⟩ := h
  exact ⟨by omega, by omega, by omega, hi.a1, by omega, hi.b1, h5⟩
def czP (x : List UInt8) : Option Cz :=
  match x with
  | [] => none
  | c :: r => match both2 (atoiL (Lib.cut r [45]).1) (bif (Lib.cut r [45]).2.2 then atoiL (Lib.cut r [45]).2.1 else some 0) with | some p => some ⟨Lib.indexByte [103, 99, 108] c + 1, p.1, p.2⟩ | none => none
def czQ (x : List UInt8) : Option Cz :=
  match x with
  | [] => none
  | c :: r => match both2 (atoiL ((Lib.split r [45]).headD [])) (bif decide (1 + Lib.index [103, 99, 108] [c] = 2) && decide (((Lib.split r [45]).length : Int) = 2) then atoiL ((Lib.split r [45]).getD 1 []) else some 0) with | some p => some ⟨1 + Lib.index [103, 99, 108] [c], p.1, p.2⟩ | none => none
theorem ltr_cases {k : Int} (h1 : 1 ≤ k) (h3 : k ≤ 3) : ∃ c, ltrL k = [c] ∧ Lib.indexByte [103, 99, 108] c + 1 = k ∧ 1 + Lib.index [103, 99, 108] [c] = k ∧ c ≠ 32 := by
  have : k = 1 ∨ k = 2 ∨ k = 3 := by omega
  rcases this with rfl | rfl | rfl
  · exact ⟨103, rfl, by decide, by decide, by decide⟩
  · exact ⟨99, rfl, by decide, by decide, by decide⟩
  · exact ⟨108, rfl, by decide, by decide, by decide⟩
theorem czP_it {c : Cz} (h : CzN c) : czP (itC c) = some c := by
  obtain ⟨x, hx, hi, -, -⟩ := ltr_cases h.k1 h.k3
  unfold itC
  rw [hx, List.singleton_append]
  unfold czP
  dsimp only
  rw [hi]
  obtain ⟨k, a, b⟩ := c
  obtain ⟨k1, k3, a0, a1, b0, b1, bk⟩ := h
  dsimp only at *
  by_cases e : k = 2
  · rw [if_pos e, cut_hit (no45 a0)]
    simp only [cond_true, atoiL_itoa a0 a1, atoiL_itoa b0 b1, both2]
  · rw [if_neg e, List.append_nil, cut_miss (no45 a0)]
    have : b = 0 := by rcases bk with h | h; exact h; exact absurd h e
    subst this
    simp only [cond_false, atoiL_itoa a0 a1, both2]
theorem czQ_it {c : Cz} (h : CzN c) : czQ (itC c) = some c := by
  obtain ⟨x, hx, -, hi, -⟩ := ltr_cases h.k1 h.k3
  unfold itC
  rw [hx, List.singleton_append]
  unfold czQ
  dsimp only
  rw [hi]
  obtain ⟨k, a, b⟩ := c
  obtain ⟨k1, k3, a0, a1, b0, b1, bk⟩ := h
  dsimp only at *
  by_cases e : k = 2
  · rw [if_pos e, split_cons (no45 a0), split_one (no45 b0)]
    simp [e, atoiL_itoa a0 a1, atoiL_itoa b0 b1, both2]
  · rw [if_neg e, List.append_nil, split_one (no45 a0)]
    have : b = 0 := by rcases bk with h | h; exact h; exact absurd h e
    subst this
    simp [e, atoiL_itoa a0 a1, both2]
theorem no32 {v : Int} (h : 0 ≤ v) : (32 : UInt8) ∉ Lib.itoa v := fun hm => by
  have := itoa_mem h _ hm
  have h3 : (32 : UInt8).toNat = 32 := rfl
  omega
theorem itC_32 {c : Cz} (h : CzN c) : (32 : UInt8) ∉ itC c := by
  obtain ⟨x, hx, -, -, h32⟩ := ltr_cases h.k1 h.k3
  unfold itC
  rw [hx]
  intro hm
  rcases List.mem_append.1 hm with h1 | h1
  · rw [List.mem_singleton] at h1
    exact h32 h1.symm
  rcases List.mem_append.1 h1 with h1 | h1
  · exact no32 h.a0 h1
  · split at h1
    · rcases List.mem_cons.1 h1 with h2 | h2
      · cases h2
      · exact no32 h.b0 h2
    · cases h1
theorem itC_len {c : Cz} (h : CzN c) : (itC c).length ≤ 40 := by
  obtain ⟨x, hx, -, -, -⟩ := ltr_cases h.k1 h.k3
  have h1 := itoa_len h.a0 h.a1
  have h2 := itoa_len h.b0 h.b1
  unfold itC
  rw [hx, List.length_append, List.length_append]
  split
  · simp; omega
  · simp; omega
theorem ctL_ne {l : List Cz} (hl : l ≠ []) (h : ∀ c ∈ l, CzN c) : ctL l ≠ [] := by
  cases l with
  | nil => exact absurd rfl hl
  | cons c l =>
    obtain ⟨x, hx, -, -, -⟩ := ltr_cases (h c (by simp)).k1 (h c (by simp)).k3
    unfold ctL
    rw [List.map_cons, Lib.join_cons]
    unfold itC
    rw [hx]
    simp
def setC (f : List UInt8 → Option Cz) (s : List UInt8) : Option (List Cz) := if s = [] then some [] else optAll f (Lib.split s [32])
theorem setC_ct {f : List UInt8 → Option Cz} (hf : ∀ c, CzN c → f (itC c) = some c) {l : List Cz} (h : ∀ c ∈ l, CzN c) : setC f (ctL l) = some l := by
  unfold setC
  by_cases hl : l = []
  · subst hl; rfl
  · rw [if_neg (ctL_ne hl h)]
    unfold ctL
    rw [split_join (by simpa using hl) (by
      intro y hy
      obtain ⟨r, hr, rfl⟩ := List.mem_map.1 hy
      exact itC_32 (h r hr))]
    exact optAll_some fun r hr => hf r (h r hr)
theorem optAll_mem {α β : Type} {f : α → Option β} : ∀ {l : List α} {o : List β}, optAll f l = some o → ∀ b ∈ o, ∃ a ∈ l, f a = some b
  | [], o, h, b, hb => by rw [optAll] at h; cases h; cases hb
  | a :: l, o, h, b, hb => by
    rw [optAll] at h
    cases hf : f a with
    | none => rw [hf] at h; cases h
    | some c =>
      rw [hf] at h
      cases hl : optAll f l with
      | none => rw [hl] at h; cases h
      | some o2 =>
        rw [hl] at h
        cases h
        rcases List.mem_cons.1 hb with rfl | hb
        · exact ⟨a, by simp, hf⟩
        · obtain ⟨x, hx, hfx⟩ := optAll_mem hl b hb
          exact ⟨x, by simp [hx], hfx⟩
theorem atoiL_in {s : List UInt8} {v : Int} (h : atoiL s = some v) : -9223372036854775808 ≤ v ∧ v ≤ 9223372036854775807 := by
  unfold atoiL at h
  split at h
  · rename_i u hu
    cases h
    exact Lib.atoiAll_bounds hu
  · cases h
theorem both2_some {a b : Option Int} {p : Int × Int} (h : both2 a b = some p) : a = some p.1 ∧ b = some p.2 := by
  unfold both2 at h
  split at h
  · cases h; exact ⟨rfl, rfl⟩
  · cases h
/-- what is read lies where numbers lie -/
def CzR (c : Cz) : Prop := (-9223372036854775808 ≤ c.a ∧ c.a ≤ 9223372036854775807) ∧ (-9223372036854775808 ≤ c.b ∧ c.b ≤ 9223372036854775807)
theorem some0 {v : Int} (h : (some (0 : Int)) = some v) : -9223372036854775808 ≤ v ∧ v ≤ 9223372036854775807 := by cases h; decide
theorem czP_in {x : List UInt8} {c : Cz} (h : czP x = some c) : CzR c := by
  unfold czP at h
  split at h
  · cases h
  · rename_i y r
    split at h
    · rename_i p hp
      cases h
      obtain ⟨h1, h2⟩ := both2_some hp
      refine ⟨atoiL_in h1, ?_⟩
      cases ht : (Lib.cut r [45]).2.2
      · rw [ht] at h2; exact some0 h2
      · rw [ht] at h2; exact atoiL_in h2
    · cases h
theorem czQ_in {x : List UInt8} {c : Cz} (h : czQ x = some c) : CzR c := by
  unfold czQ at h
  split at h
  · cases h
  · rename_i y r
    split at h
    · rename_i p hp
      cases h
      obtain ⟨h1, h2⟩ := both2_some hp
      refine ⟨atoiL_in h1, ?_⟩
      cases ht : decide (1 + Lib.index [103, 99, 108] [y] = 2) && decide (((Lib.split r [45]).length : Int) = 2)
      · rw [ht] at h2; exact some0 h2
      · rw [ht] at h2; exact atoiL_in h2
    · cases h
theorem setC_in {f : List UInt8 → Option Cz} (hf : ∀ x c, f x = some c → CzR c) {s : List UInt8} {o : List Cz} (h : setC f s = some o) : ∀ c ∈ o, CzR c := by
  unfold setC at h
  split at h
  · cases h
    intro c hc
    cases hc
  · intro c hc
    obtain ⟨x, _, hx⟩ := optAll_mem h c hc
    exact hf x c hx
theorem CzR.i {c : Cz} (h : CzR c) : CzI c := ⟨h.1.2, h.2.2⟩
theorem any_false {l : List Cz} (h : l.any badC = false) : ∀ c ∈ l, badC c = false := fun c hc => by
  cases hb : badC c with
  | false => rfl
  | true => rw [List.any_eq_true.2 ⟨c, hc, hb⟩] at h; cases h
def rdC (s : ByteArray) (o : Option (List Cz)) : List Cz × Int := match o with | none => ([], 3) | some out => bif decide ((ctV out).2 = 0) && decide ((ctV out).1 = s) then (out, 0) else ([], 3)
theorem ctV_ok {l : List Cz} (h : (ctV l).2 = 0) : l.any badC = false ∧ (ctV l).1 = bs (ctL l) := by
  unfold ctV at *
  cases e : l.any badC
  · exact ⟨rfl, rfl⟩
  · rw [e] at h; cases h
theorem rdC_ok {s : ByteArray} {f g : List UInt8 → Option Cz} (hf : ∀ x c, f x = some c → CzR c) (hg : ∀ c, CzN c → g (itC c) = some c) {out : List Cz} (h : setC f s.data.toList = some out) (hd : (decide ((ctV out).2 = 0) && decide ((ctV out).1 = s)) = true) : setC g s.data.toList = some out := by
  simp only [Bool.and_eq_true, decide_eq_true_eq] at hd
  obtain ⟨h1, h2⟩ := ctV_ok hd.1
  rw [h2] at hd
  have hs : s.data.toList = ctL out := by rw [← hd.2]; simp [bs]
  have hi := setC_in hf h
  rw [hs]
  exact setC_ct hg fun c hc => czN_of (any_false h1 c hc) (hi c hc).i
theorem rdC_same (s : ByteArray) : rdC s (setC czP s.data.toList) = rdC s (setC czQ s.data.toList) := by
  cases h1 : setC czP s.data.toList with
  | none =>
    cases h2 : setC czQ s.data.toList with
    | none => rfl
    | some o2 =>
      cases d : decide ((ctV o2).2 = 0) && decide ((ctV o2).1 = s)
      · unfold rdC; simp only [d]; rfl
      · have := rdC_ok (g := czP) (fun _ _ => czQ_in) (fun r hr => czP_it hr) h2 d
        rw [h1] at this; cases this
  | some o1 =>
    cases d : decide ((ctV o1).2 = 0) && decide ((ctV o1).1 = s)
    · cases h2 : setC czQ s.data.toList with
      | none => unfold rdC; simp only [d]; rfl
      | some o2 =>
        cases d2 : decide ((ctV o2).2 = 0) && decide ((ctV o2).1 = s)
        · unfold rdC; simp only [d, d2]; rfl
        · have h3 := rdC_ok (g := czP) (fun _ _ => czQ_in) (fun r hr => czP_it hr) h2 d2
          rw [h1] at h3
          cases h3
          exact absurd d2 (by rw [d]; decide)
    · rw [rdC_ok (g := czQ) (fun _ _ => czP_in) (fun r hr => czQ_it hr) h1 d]
end Go.Proofs.YtadlmkgeplnemaaDoor
