/-
  Texts of this proof, part 6: Ab30 Ir Tab Tv Tvp Tsm Ty Tex Tmz Tma Tmf.
-/
import Derived.Test.YtllgibfmddihgaaQEffectSays5
import Derived.Laws.Strings2
import Derived.Laws.StructEq
import Derived.Lib.AppendZerosOnto
import Derived.Lib.ItoaNum
import Derived.Lib.MinMax
import Derived.Test.YtllgibfmddihgaaProg
namespace Go.Proofs.Ytllgibfmddihgaa
open Go.RowKit
section
variable {P : Program} {F : Frm} {L : Tab} {d : Option Tmp} {ty : TypeId} {pos : String} {aft : Array Edge} {g : Option (Nat × Bool)} {ρ : Operand → AV} {hp : List Blk} {K : AV → List Blk → Prop}
theorem own_turn {M : Mm} {w : World} (hh : HeapOk F M hp w) {i n n' sz : Nat} {v v' : Value} {e : TypeId} {cs cs' : List T} (hi : hp[i]? = some (.row v e sz n cs)) (hb : ∀ b, v'.ownBlock = some b → v.ownBlock = some b) (hx : BlkOk M w (.row v' e sz n' cs')) : HeapOk F M (hp.set i (.row v' e sz n' cs')) w := by
  refine hh.step i rfl rfl rfl (Nat.le_refl _) (fun _ _ _ => rfl) (Ext.refl _ _) (fun p v h1 h2 => by rw [h2] at h1; cases h1) (fun j hj => by rw [List.getElem?_set_ne (Ne.symm hj)]) (fun x' hx' => ?_)
  have hlt : i < hp.length := (List.getElem?_eq_some_iff.1 hi).1
  rw [List.getElem?_set_self hlt] at hx'
  obtain rfl : Blk.row v' e sz n' cs' = x' := by injection hx'
  exact ⟨hx, fun b hb' => .inl ⟨_, hi, hb b hb'⟩⟩
theorem lo_own_hi (hL : TabOk P L) {t el : TypeId} {ti te : TI} {x y : Operand} {i n sz : Nat} {v : Value} {e : TypeId} {cs : List T} {k : IntKind} {z : Int} (l : Nat) (hl : l ≤ n) (hx : ρ x = .own i v) (hi : hp[i]? = some (.row v e sz n cs)) (hy : ρ y = .c (.lit (.int k z))) (hz : z = (l : Int)) (ht : L.look t = some ti) (hd : ti.d = .slice el) (hte : L.look el = some te) (hsz : te.size = sz)
    (h : ∀ v', K (.own i v') (hp.set i (.row v' e sz l (cs.take (l * sz))))) : LO P F ⟨d, .slice t x none (some y) none, ty, pos, aft, g⟩ ρ hp K := by
  refine ⟨fun M ev w he hh => ?_⟩
  have h1 := he x (by simp [Op.operands])
  rw [hx] at h1
  simp only [RA] at h1
  have h2 := he y (by simp [Op.operands])
  rw [hy] at h2
  simp only [RA, RT] at h2
  obtain ⟨xs, ho, hxs, hone, h0⟩ := hh.at_ i _ hi
  obtain ⟨A, c, rfl, hnc, hcm⟩ := ownO_shape ho
  subst hz
  have hb := run_sliceBound (P := P) (w := w) k (l : Int) c .sliceAcap (by omega) (by omega)
  have hr : (execOp ev ⟨d, .slice t x none (some y) none, ty, pos, aft, g⟩).run P w = .ok (.value (.slice A l c)) w := by
    have hz : (if c = 0 then A else A.map (·.add 0)) = A := by
      cases A with
      | none => split <;> rfl
      | some ad => split <;> simp [add_zero']
    simp [execOp, Instr.sliceAt, Instr.slice, Instr.sliceBounds, h1.1, h2, run_underlying (hL.slice ht hd), hL.sizeOf hte, hb, hsz]
    first | done | exact hz | simpa using hz
  rw [hr]
  have hd := ho.take hl
  exact ⟨M, _, _, h (.slice A l c), Ext.refl _ _, own_turn hh hi (fun b hb => by cases A <;> exact hb) ⟨_, hd, hxs.take _, fun x hx => hone x (List.mem_of_mem_take hx), h0⟩, by simp only [RA]; exact ⟨trivial, own_oneO hd⟩⟩
theorem zQh {t el : TypeId} {ti te : TI} {x y : Operand} {i n sz : Nat} {v : Value} {e : TypeId} {cs : List T} {k : IntKind} {z : Int} {hp' : Value → List Blk} (l : Nat) (hl : l ≤ n) (h : ∀ v', K (.own i v') (hp' v')) (hz : z = (l : Int) := by exact rfl) (hL : TabOk P L := by exact tok) (hx : ρ x = .own i v := by exact rfl) (hi : hp[i]? = some (.row v e sz n cs) := by exact rfl) (hy : ρ y = .c (.lit (.int k z)) := by exact rfl) (ht : L.look t = some ti := by exact rfl) (hd : ti.d = .slice el := by exact rfl) (hte : L.look el = some te := by exact rfl) (hsz : te.size = sz := by exact rfl)
    (hf : ∀ v', evl (hp.set i (.row v' e sz l (cs.take (l * sz)))) = some (hp' v') := by exact fun _ => rfl) : LO P F ⟨d, .slice t x none (some y) none, ty, pos, aft, g⟩ ρ hp K :=
  lo_own_hi hL l hl hx hi hy hz ht hd hte hsz fun v' => by rw [← evl_eq (hf v')]; exact h v'
end
end Go.Proofs.Ytllgibfmddihgaa
namespace Go.Proofs.Ytllgibfmddihgaa
open Go.RowKit
def intTs (i : Int) : List T := [.lit (.int .i64 i)]
def intRow (l : List Int) : T := .row l.length 1 (l.flatMap intTs)
theorem int_at {l : List Int} {k : Nat} {i : Int} (h : l[k]? = some i) : (l.flatMap intTs)[k * 1]? = some (.lit (.int .i64 i)) := flat_get intTs 1 (fun _ => rfl) h (j := 0) (by omega)
end Go.Proofs.Ytllgibfmddihgaa
namespace Go.Proofs.Ytllgibfmddihgaa
set_option maxRecDepth 100000 in
def tab : Tab :=
  (.node 135 ⟨1, 8, [.nilFunc], .other⟩ (.node 69 ⟨1, 24, [.slice none 0 0], (.slice 186)⟩ (.node 32 ⟨1, 8, [.nilFunc], .other⟩ (.node 16 ⟨1, 8, [.pointer none], .other⟩ (.node 8 ⟨4, 24, [.int .i64 0, .int .i64 0, .bool false, .int .u8 0], (.struct [(0, 1), (1, 1), (2, 1), (3, 1)])⟩ (.node 4 ⟨1, 1, [.bool false], .bool⟩ (.node 2 ⟨1, 8, [.int .i64 0], (.int .i64)⟩ (.node 1 ⟨1, 8, [.nilFunc], .other⟩ .nil .nil) (.node 3 ⟨1, 8, [.int .i64 0], (.int .i64)⟩ .nil .nil)) (.node 6 ⟨1, 1, [.int .u8 0], (.int .u8)⟩ (.node 5 ⟨1, 1, [.int .u8 0], (.int .u8)⟩ .nil .nil) (.node 7 ⟨4, 24, [.int .i64 0, .int .i64 0, .bool false, .int .u8 0], (.struct [(0, 1), (1, 1), (2, 1), (3, 1)])⟩ .nil .nil))) (.node 12 ⟨1, 8, [.int .u64 0], (.int .u64)⟩ (.node 10 ⟨1, 16, [.string ⟨#[]⟩], .string⟩ (.node 9 ⟨1, 16, [.string ⟨#[]⟩], .string⟩ .nil .nil) (.node 11 ⟨1, 16, [.string ⟨#[]⟩], .string⟩ .nil .nil)) (.node 14 ⟨2, 24, [.string ⟨#[]⟩, .int .u64 0], (.struct [(0, 1), (1, 1)])⟩ (.node 13 ⟨2, 24, [.string ⟨#[]⟩, .int .u64 0], (.struct [(0, 1), (1, 1)])⟩ .nil .nil) (.node 15 ⟨1, 8, [.pointer none], .other⟩ .nil .nil)))) (.node 24 ⟨1, 24, [.slice none 0 0], (.slice 141)⟩ (.node 20 ⟨1, 16, [.nilIface], .other⟩ (.node 18 ⟨1, 8, [.pointer none], (.struct [(0, 1)])⟩ (.node 17 ⟨1, 8, [.pointer none], .other⟩ .nil .nil) (.node 19 ⟨1, 8, [.pointer none], (.struct [(0, 1)])⟩ .nil .nil)) (.node 22 ⟨1, 24, [.slice none 0 0], (.slice 150)⟩ (.node 21 ⟨1, 4, [.int .i32 0], (.int .i32)⟩ .nil .nil) (.node 23 ⟨1, 24, [.slice none 0 0], (.slice 145)⟩ .nil .nil))) (.node 28 ⟨1, 8, [.pointer none], .other⟩ (.node 26 ⟨1, 24, [.slice none 0 0], (.slice 3)⟩ (.node 25 ⟨1, 8, [.nilFunc], .other⟩ .nil .nil) (.node 27 ⟨1, 24, [.slice none 0 0], (.slice 38)⟩ .nil .nil)) (.node 31 ⟨1, 8, [.nilFunc], .other⟩ (.node 29 ⟨1, 8, [.int .i64 0], (.int .i64)⟩ .nil .nil) .nil)))) (.node 49 ⟨1, 8, [.map none], .other⟩ (.node 41 ⟨1, 8, [.nilFunc], .other⟩ (.node 36 ⟨1, 24, [.slice none 0 0], (.slice 5)⟩ (.node 34 ⟨1, 8, [.map none], .other⟩ (.node 33 ⟨1, 8, [.nilFunc], .other⟩ .nil .nil) (.node 35 ⟨1, 8, [.map none], .other⟩ .nil .nil)) (.node 38 ⟨4, 64, [.int .i64 0, .int .i64 0, .slice none 0 0, .slice none 0 0], (.struct [(0, 1), (1, 1), (2, 1), (3, 1)])⟩ (.node 37 ⟨4, 64, [.int .i64 0, .int .i64 0, .slice none 0 0, .slice none 0 0], (.struct [(0, 1), (1, 1), (2, 1), (3, 1)])⟩ .nil .nil) (.node 40 ⟨1, 8, [.nilFunc], .other⟩ .nil .nil))) (.node 46 ⟨1, 8, [.nilFunc], .other⟩ (.node 44 ⟨1, 8, [.nilFunc], .other⟩ (.node 42 ⟨1, 24, [.slice none 0 0], (.slice 26)⟩ .nil .nil) (.node 45 ⟨1, 8, [.nilFunc], .other⟩ .nil .nil)) (.node 48 ⟨1, 8, [.nilFunc], .other⟩ (.node 47 ⟨1, 8, [.pointer none], .other⟩ .nil .nil) .nil))) (.node 61 ⟨1, 8, [.pointer none], .other⟩ (.node 56 ⟨1, 8, [.nilFunc], .other⟩ (.node 52 ⟨1, 8, [.nilFunc], .other⟩ (.node 50 ⟨1, 8, [.map none], .other⟩ .nil .nil) (.node 54 ⟨1, 8, [.nilFunc], .other⟩ .nil .nil)) (.node 58 ⟨1, 8, [.nilFunc], .other⟩ (.node 57 ⟨1, 8, [.nilFunc], .other⟩ .nil .nil) (.node 60 ⟨1, 8, [.nilFunc], .other⟩ .nil .nil))) (.node 66 ⟨1, 8, [.nilFunc], .other⟩ (.node 63 ⟨2, 24, [.string ⟨#[]⟩, .int .i64 0], (.struct [(0, 1), (1, 1)])⟩ (.node 62 ⟨2, 24, [.string ⟨#[]⟩, .int .i64 0], (.struct [(0, 1), (1, 1)])⟩ .nil .nil) (.node 65 ⟨1, 8, [.nilFunc], .other⟩ .nil .nil)) (.node 68 ⟨1, 24, [.slice none 0 0], (.slice 184)⟩ (.node 67 ⟨1, 24, [.slice none 0 0], (.slice 180)⟩ .nil .nil) .nil))))) (.node 102 ⟨1, 8, [.nilFunc], .other⟩ (.node 85 ⟨14, 248, [.string ⟨#[]⟩, .slice none 0 0, .slice none 0 0, .int .i64 0, .string ⟨#[]⟩, .slice none 0 0, .int .i64 0, .int .i64 0, .string ⟨#[]⟩, .slice none 0 0, .slice none 0 0, .slice none 0 0, .slice none 0 0, .int .i64 0], (.struct [(0, 1), (1, 1), (2, 1), (3, 3), (6, 8)])⟩ (.node 77 ⟨1, 8, [.nilFunc], .other⟩ (.node 73 ⟨8, 168, [.string ⟨#[]⟩, .int .i64 0, .slice none 0 0, .slice none 0 0, .slice none 0 0, .slice none 0 0, .slice none 0 0, .slice none 0 0], (.struct [(0, 1), (1, 1), (2, 1), (3, 1), (4, 1), (5, 1), (6, 1), (7, 1)])⟩ (.node 71 ⟨1, 24, [.slice none 0 0], (.slice 86)⟩ (.node 70 ⟨1, 24, [.slice none 0 0], (.slice 133)⟩ .nil .nil) (.node 72 ⟨8, 168, [.string ⟨#[]⟩, .int .i64 0, .slice none 0 0, .slice none 0 0, .slice none 0 0, .slice none 0 0, .slice none 0 0, .slice none 0 0], (.struct [(0, 1), (1, 1), (2, 1), (3, 1), (4, 1), (5, 1), (6, 1), (7, 1)])⟩ .nil .nil)) (.node 75 ⟨3, 48, [.int .i64 0, .string ⟨#[]⟩, .slice none 0 0], (.struct [(0, 1), (1, 1), (2, 1)])⟩ (.node 74 ⟨1, 24, [.slice none 0 0], (.slice 76)⟩ .nil .nil) (.node 76 ⟨3, 48, [.int .i64 0, .string ⟨#[]⟩, .slice none 0 0], (.struct [(0, 1), (1, 1), (2, 1)])⟩ .nil .nil))) (.node 81 ⟨1, 24, [.slice none 0 0], (.slice 84)⟩ (.node 79 ⟨1, 8, [.nilFunc], .other⟩ (.node 78 ⟨1, 8, [.nilFunc], .other⟩ .nil .nil) (.node 80 ⟨1, 24, [.slice none 0 0], (.slice 9)⟩ .nil .nil)) (.node 83 ⟨8, 136, [.int .i64 0, .int .i64 0, .string ⟨#[]⟩, .slice none 0 0, .slice none 0 0, .slice none 0 0, .slice none 0 0, .int .i64 0], (.struct [(0, 1), (1, 1), (2, 1), (3, 1), (4, 1), (5, 1), (6, 1), (7, 1)])⟩ (.node 82 ⟨1, 24, [.slice none 0 0], (.slice 225)⟩ .nil .nil) (.node 84 ⟨8, 136, [.int .i64 0, .int .i64 0, .string ⟨#[]⟩, .slice none 0 0, .slice none 0 0, .slice none 0 0, .slice none 0 0, .int .i64 0], (.struct [(0, 1), (1, 1), (2, 1), (3, 1), (4, 1), (5, 1), (6, 1), (7, 1)])⟩ .nil .nil)))) (.node 94 ⟨1, 24, [.slice none 0 0], (.slice 108)⟩ (.node 90 ⟨1, 8, [.nilFunc], .other⟩ (.node 87 ⟨1, 8, [.nilFunc], .other⟩ (.node 86 ⟨14, 248, [.string ⟨#[]⟩, .slice none 0 0, .slice none 0 0, .int .i64 0, .string ⟨#[]⟩, .slice none 0 0, .int .i64 0, .int .i64 0, .string ⟨#[]⟩, .slice none 0 0, .slice none 0 0, .slice none 0 0, .slice none 0 0, .int .i64 0], (.struct [(0, 1), (1, 1), (2, 1), (3, 3), (6, 8)])⟩ .nil .nil) (.node 88 ⟨1, 8, [.nilFunc], .other⟩ .nil .nil)) (.node 92 ⟨1, 8, [.nilFunc], .other⟩ (.node 91 ⟨1, 8, [.nilFunc], .other⟩ .nil .nil) (.node 93 ⟨1, 8, [.nilFunc], .other⟩ .nil .nil))) (.node 98 ⟨1, 8, [.nilFunc], .other⟩ (.node 96 ⟨2, 48, [.slice none 0 0, .slice none 0 0], (.struct [(0, 1), (1, 1)])⟩ (.node 95 ⟨1, 24, [.slice none 0 0], (.slice 110)⟩ .nil .nil) (.node 97 ⟨2, 48, [.slice none 0 0, .slice none 0 0], (.struct [(0, 1), (1, 1)])⟩ .nil .nil)) (.node 101 ⟨1, 8, [.nilFunc], .other⟩ (.node 99 ⟨1, 8, [.nilFunc], .other⟩ .nil .nil) .nil)))) (.node 117 ⟨1, 8, [.nilFunc], .other⟩ (.node 110 ⟨1, 24, [.slice none 0 0], (.slice 113)⟩ (.node 106 ⟨2, 48, [.slice none 0 0, .slice none 0 0], (.struct [(0, 1), (1, 1)])⟩ (.node 104 ⟨1, 24, [.slice none 0 0], (.slice 111)⟩ (.node 103 ⟨1, 24, [.slice none 0 0], (.slice 109)⟩ .nil .nil) (.node 105 ⟨2, 48, [.slice none 0 0, .slice none 0 0], (.struct [(0, 1), (1, 1)])⟩ .nil .nil)) (.node 108 ⟨2, 16, [.int .i64 0, .int .i64 0], (.struct [(0, 1), (1, 1)])⟩ (.node 107 ⟨2, 16, [.int .i64 0, .int .i64 0], (.struct [(0, 1), (1, 1)])⟩ .nil .nil) (.node 109 ⟨2, 16, [.int .i64 0, .int .i64 0], (.array 2 3)⟩ .nil .nil))) (.node 114 ⟨3, 24, [.int .i64 0, .int .i64 0, .int .i64 0], (.array 3 3)⟩ (.node 112 ⟨3, 24, [.int .i64 0, .bool false, .int .i64 0], (.struct [(0, 1), (1, 1), (2, 1)])⟩ (.node 111 ⟨1, 24, [.slice none 0 0], (.slice 114)⟩ .nil .nil) (.node 113 ⟨3, 24, [.int .i64 0, .bool false, .int .i64 0], (.struct [(0, 1), (1, 1), (2, 1)])⟩ .nil .nil)) (.node 116 ⟨1, 8, [.nilFunc], .other⟩ (.node 115 ⟨1, 8, [.nilFunc], .other⟩ .nil .nil) .nil))) (.node 127 ⟨1, 8, [.nilFunc], .other⟩ (.node 122 ⟨1, 8, [.nilFunc], .other⟩ (.node 120 ⟨1, 8, [.nilFunc], .other⟩ (.node 118 ⟨1, 8, [.nilFunc], .other⟩ .nil .nil) (.node 121 ⟨1, 8, [.nilFunc], .other⟩ .nil .nil)) (.node 125 ⟨2, 16, [.int .i64 0, .int .i64 0], (.struct [(0, 1), (1, 1)])⟩ (.node 124 ⟨1, 8, [.nilFunc], .other⟩ .nil .nil) (.node 126 ⟨2, 16, [.int .i64 0, .int .i64 0], (.struct [(0, 1), (1, 1)])⟩ .nil .nil))) (.node 132 ⟨15, 272, [.string ⟨#[]⟩, .slice none 0 0, .slice none 0 0, .slice none 0 0, .int .i64 0, .string ⟨#[]⟩, .slice none 0 0, .int .i64 0, .int .i64 0, .string ⟨#[]⟩, .slice none 0 0, .slice none 0 0, .slice none 0 0, .slice none 0 0, .int .i64 0], (.struct [(0, 1), (1, 1), (2, 1), (3, 1), (4, 3), (7, 8)])⟩ (.node 130 ⟨1, 8, [.nilFunc], .other⟩ (.node 129 ⟨1, 8, [.nilFunc], .other⟩ .nil .nil) (.node 131 ⟨1, 8, [.nilFunc], .other⟩ .nil .nil)) (.node 134 ⟨1, 8, [.nilFunc], .other⟩ (.node 133 ⟨15, 272, [.string ⟨#[]⟩, .slice none 0 0, .slice none 0 0, .slice none 0 0, .int .i64 0, .string ⟨#[]⟩, .slice none 0 0, .int .i64 0, .int .i64 0, .string ⟨#[]⟩, .slice none 0 0, .slice none 0 0, .slice none 0 0, .slice none 0 0, .int .i64 0], (.struct [(0, 1), (1, 1), (2, 1), (3, 1), (4, 3), (7, 8)])⟩ .nil .nil) .nil)))))) (.node 200 ⟨1, 8, [.nilFunc], .other⟩ (.node 169 ⟨1, 24, [.slice none 0 0], (.slice 36)⟩ (.node 151 ⟨1, 8, [.nilFunc], .other⟩ (.node 143 ⟨1, 8, [.nilFunc], .other⟩ (.node 139 ⟨1, 8, [.nilFunc], .other⟩ (.node 137 ⟨1, 8, [.nilFunc], .other⟩ (.node 136 ⟨1, 8, [.nilFunc], .other⟩ .nil .nil) (.node 138 ⟨1, 8, [.nilFunc], .other⟩ .nil .nil)) (.node 141 ⟨2, 24, [.string ⟨#[]⟩, .int .i64 0], (.struct [(0, 1), (1, 1)])⟩ (.node 140 ⟨2, 24, [.string ⟨#[]⟩, .int .i64 0], (.struct [(0, 1), (1, 1)])⟩ .nil .nil) (.node 142 ⟨1, 8, [.map none], .other⟩ .nil .nil))) (.node 147 ⟨1, 8, [.nilFunc], .other⟩ (.node 145 ⟨3, 32, [.string ⟨#[]⟩, .int .i64 0, .int .i64 0], (.struct [(0, 1), (1, 1), (2, 1)])⟩ (.node 144 ⟨3, 32, [.string ⟨#[]⟩, .int .i64 0, .int .i64 0], (.struct [(0, 1), (1, 1), (2, 1)])⟩ .nil .nil) (.node 146 ⟨1, 8, [.nilFunc], .other⟩ .nil .nil)) (.node 149 ⟨3, 48, [.string ⟨#[]⟩, .int .i64 0, .slice none 0 0], (.struct [(0, 1), (1, 1), (2, 1)])⟩ (.node 148 ⟨1, 8, [.nilFunc], .other⟩ .nil .nil) (.node 150 ⟨3, 48, [.string ⟨#[]⟩, .int .i64 0, .slice none 0 0], (.struct [(0, 1), (1, 1), (2, 1)])⟩ .nil .nil)))) (.node 160 ⟨1, 8, [.nilFunc], .other⟩ (.node 156 ⟨1, 24, [.slice none 0 0], (.slice 4)⟩ (.node 154 ⟨1, 8, [.nilFunc], .other⟩ (.node 152 ⟨1, 8, [.map none], .other⟩ .nil .nil) (.node 155 ⟨1, 8, [.nilFunc], .other⟩ .nil .nil)) (.node 158 ⟨5, 88, [.slice none 0 0, .bool false, .int .i64 0, .slice none 0 0, .slice none 0 0], (.struct [(0, 1), (1, 1), (2, 1), (3, 1), (4, 1)])⟩ (.node 157 ⟨5, 88, [.slice none 0 0, .bool false, .int .i64 0, .slice none 0 0, .slice none 0 0], (.struct [(0, 1), (1, 1), (2, 1), (3, 1), (4, 1)])⟩ .nil .nil) (.node 159 ⟨1, 8, [.nilFunc], .other⟩ .nil .nil))) (.node 165 ⟨2, 24, [.string ⟨#[]⟩, .int .i64 0], (.struct [(0, 1), (1, 1)])⟩ (.node 162 ⟨2, 16, [.map none, .map none], (.struct [(0, 1), (1, 1)])⟩ (.node 161 ⟨1, 8, [.map none], .other⟩ .nil .nil) (.node 163 ⟨2, 16, [.map none, .map none], (.struct [(0, 1), (1, 1)])⟩ .nil .nil)) (.node 167 ⟨1, 8, [.nilFunc], .other⟩ (.node 166 ⟨2, 24, [.string ⟨#[]⟩, .int .i64 0], (.struct [(0, 1), (1, 1)])⟩ .nil .nil) .nil)))) (.node 184 ⟨2, 40, [.string ⟨#[]⟩, .slice none 0 0], (.struct [(0, 1), (1, 1)])⟩ (.node 177 ⟨1, 8, [.nilFunc], .other⟩ (.node 173 ⟨1, 8, [.pointer none], .other⟩ (.node 171 ⟨1, 8, [.nilFunc], .other⟩ (.node 170 ⟨1, 8, [.nilFunc], .other⟩ .nil .nil) (.node 172 ⟨1, 8, [.map none], .other⟩ .nil .nil)) (.node 175 ⟨17, 344, [.string ⟨#[]⟩, .int .i64 0, .slice none 0 0, .slice none 0 0, .slice none 0 0, .slice none 0 0, .slice none 0 0, .slice none 0 0, .string ⟨#[]⟩, .int .i64 0, .slice none 0 0, .slice none 0 0, .slice none 0 0, .slice none 0 0, .slice none 0 0, .slice none 0 0, .map none], (.struct [(0, 8), (8, 8), (16, 1)])⟩ (.node 174 ⟨17, 344, [.string ⟨#[]⟩, .int .i64 0, .slice none 0 0, .slice none 0 0, .slice none 0 0, .slice none 0 0, .slice none 0 0, .slice none 0 0, .string ⟨#[]⟩, .int .i64 0, .slice none 0 0, .slice none 0 0, .slice none 0 0, .slice none 0 0, .slice none 0 0, .slice none 0 0, .map none], (.struct [(0, 8), (8, 8), (16, 1)])⟩ .nil .nil) (.node 176 ⟨1, 8, [.nilFunc], .other⟩ .nil .nil))) (.node 181 ⟨2, 40, [.string ⟨#[]⟩, .slice none 0 0], (.struct [(0, 1), (1, 1)])⟩ (.node 179 ⟨3, 64, [.string ⟨#[]⟩, .slice none 0 0, .slice none 0 0], (.struct [(0, 1), (1, 1), (2, 1)])⟩ (.node 178 ⟨1, 24, [.slice none 0 0], (.slice 182)⟩ .nil .nil) (.node 180 ⟨3, 64, [.string ⟨#[]⟩, .slice none 0 0, .slice none 0 0], (.struct [(0, 1), (1, 1), (2, 1)])⟩ .nil .nil)) (.node 183 ⟨2, 40, [.string ⟨#[]⟩, .slice none 0 0], (.struct [(0, 1), (1, 1)])⟩ (.node 182 ⟨2, 40, [.string ⟨#[]⟩, .slice none 0 0], (.struct [(0, 1), (1, 1)])⟩ .nil .nil) .nil))) (.node 192 ⟨1, 8, [.nilFunc], .other⟩ (.node 188 ⟨1, 8, [.nilFunc], .other⟩ (.node 186 ⟨3, 56, [.string ⟨#[]⟩, .string ⟨#[]⟩, .slice none 0 0], (.struct [(0, 1), (1, 1), (2, 1)])⟩ (.node 185 ⟨3, 56, [.string ⟨#[]⟩, .string ⟨#[]⟩, .slice none 0 0], (.struct [(0, 1), (1, 1), (2, 1)])⟩ .nil .nil) (.node 187 ⟨1, 8, [.nilFunc], .other⟩ .nil .nil)) (.node 190 ⟨1, 8, [.nilFunc], .other⟩ (.node 189 ⟨1, 8, [.nilFunc], .other⟩ .nil .nil) (.node 191 ⟨1, 8, [.nilFunc], .other⟩ .nil .nil))) (.node 197 ⟨1, 8, [.int .u64 0], (.int .u64)⟩ (.node 195 ⟨1, 8, [.nilFunc], .other⟩ (.node 193 ⟨1, 8, [.nilFunc], .other⟩ .nil .nil) (.node 196 ⟨1, 8, [.nilFunc], .other⟩ .nil .nil)) (.node 199 ⟨1, 8, [.nilFunc], .other⟩ (.node 198 ⟨1, 8, [.nilFunc], .other⟩ .nil .nil) .nil))))) (.node 231 ⟨2, 32, [.int .i64 0, .slice none 0 0], (.struct [(0, 1), (1, 1)])⟩ (.node 216 ⟨1, 8, [.nilFunc], .other⟩ (.node 208 ⟨1, 8, [.nilFunc], .other⟩ (.node 204 ⟨1, 8, [.nilFunc], .other⟩ (.node 202 ⟨1, 8, [.nilFunc], .other⟩ (.node 201 ⟨1, 8, [.nilFunc], .other⟩ .nil .nil) (.node 203 ⟨1, 8, [.nilFunc], .other⟩ .nil .nil)) (.node 206 ⟨2, 16, [.map none, .int .i64 0], (.struct [(0, 1), (1, 1)])⟩ (.node 205 ⟨2, 16, [.map none, .int .i64 0], (.struct [(0, 1), (1, 1)])⟩ .nil .nil) (.node 207 ⟨1, 8, [.nilFunc], .other⟩ .nil .nil))) (.node 212 ⟨1, 8, [.nilFunc], .other⟩ (.node 210 ⟨3, 40, [.int .i64 0, .slice none 0 0, .bool false], (.struct [(0, 1), (1, 1), (2, 1)])⟩ (.node 209 ⟨3, 40, [.int .i64 0, .slice none 0 0, .bool false], (.struct [(0, 1), (1, 1), (2, 1)])⟩ .nil .nil) (.node 211 ⟨1, 8, [.nilFunc], .other⟩ .nil .nil)) (.node 214 ⟨1, 8, [.nilFunc], .other⟩ (.node 213 ⟨1, 8, [.nilFunc], .other⟩ .nil .nil) (.node 215 ⟨1, 8, [.nilFunc], .other⟩ .nil .nil)))) (.node 224 ⟨12, 192, [.int .i64 0, .int .i64 0, .string ⟨#[]⟩, .slice none 0 0, .int .i64 0, .int .i64 0, .string ⟨#[]⟩, .slice none 0 0, .slice none 0 0, .slice none 0 0, .slice none 0 0, .int .i64 0], (.struct [(0, 4), (4, 8)])⟩ (.node 220 ⟨1, 8, [.nilFunc], .other⟩ (.node 218 ⟨1, 8, [.nilFunc], .other⟩ (.node 217 ⟨1, 8, [.nilFunc], .other⟩ .nil .nil) (.node 219 ⟨1, 8, [.nilFunc], .other⟩ .nil .nil)) (.node 222 ⟨4, 56, [.int .i64 0, .int .i64 0, .string ⟨#[]⟩, .slice none 0 0], (.struct [(0, 1), (1, 1), (2, 1), (3, 1)])⟩ (.node 221 ⟨1, 24, [.slice none 0 0], (.slice 223)⟩ .nil .nil) (.node 223 ⟨4, 56, [.int .i64 0, .int .i64 0, .string ⟨#[]⟩, .slice none 0 0], (.struct [(0, 1), (1, 1), (2, 1), (3, 1)])⟩ .nil .nil))) (.node 228 ⟨1, 8, [.nilFunc], .other⟩ (.node 226 ⟨1, 8, [.nilFunc], .other⟩ (.node 225 ⟨12, 192, [.int .i64 0, .int .i64 0, .string ⟨#[]⟩, .slice none 0 0, .int .i64 0, .int .i64 0, .string ⟨#[]⟩, .slice none 0 0, .slice none 0 0, .slice none 0 0, .slice none 0 0, .int .i64 0], (.struct [(0, 4), (4, 8)])⟩ .nil .nil) (.node 227 ⟨1, 8, [.nilFunc], .other⟩ .nil .nil)) (.node 230 ⟨1, 8, [.nilFunc], .other⟩ (.node 229 ⟨1, 8, [.nilFunc], .other⟩ .nil .nil) .nil)))) (.node 247 ⟨1, 8, [.nilFunc], .other⟩ (.node 240 ⟨1, 8, [.nilFunc], .other⟩ (.node 235 ⟨1, 8, [.nilFunc], .other⟩ (.node 233 ⟨1, 24, [.slice none 0 0], (.slice 232)⟩ (.node 232 ⟨2, 32, [.int .i64 0, .slice none 0 0], (.struct [(0, 1), (1, 1)])⟩ .nil .nil) (.node 234 ⟨1, 8, [.nilFunc], .other⟩ .nil .nil)) (.node 237 ⟨1, 8, [.nilFunc], .other⟩ (.node 236 ⟨1, 24, [.slice none 0 0], (.slice 210)⟩ .nil .nil) (.node 239 ⟨1, 8, [.nilFunc], .other⟩ .nil .nil))) (.node 244 ⟨1, 8, [.nilFunc], .other⟩ (.node 242 ⟨1, 8, [.nilFunc], .other⟩ (.node 241 ⟨1, 8, [.nilFunc], .other⟩ .nil .nil) (.node 243 ⟨1, 8, [.nilFunc], .other⟩ .nil .nil)) (.node 246 ⟨1, 8, [.nilFunc], .other⟩ (.node 245 ⟨1, 8, [.nilFunc], .other⟩ .nil .nil) .nil))) (.node 255 ⟨1, 1, [.int .u8 0], (.int .u8)⟩ (.node 251 ⟨0, 0, [], (.struct [(0, 0)])⟩ (.node 249 ⟨4, 40, [.pointer none, .pointer none, .pointer none, .string ⟨#[]⟩], (.struct [(0, 1), (1, 1), (2, 1), (3, 1)])⟩ (.node 248 ⟨4, 40, [.pointer none, .pointer none, .pointer none, .string ⟨#[]⟩], (.struct [(0, 1), (1, 1), (2, 1), (3, 1)])⟩ .nil .nil) (.node 250 ⟨0, 0, [], (.array 0 16)⟩ .nil .nil)) (.node 253 ⟨1, 4, [.int .u32 0], (.int .u32)⟩ (.node 252 ⟨0, 0, [], (.struct [(0, 0)])⟩ .nil .nil) (.node 254 ⟨1, 1, [.int .u8 0], (.int .u8)⟩ .nil .nil))) (.node 259 ⟨1, 4, [.int .i32 0], (.int .i32)⟩ (.node 257 ⟨1, 8, [.pointer none], .other⟩ (.node 256 ⟨1, 8, [.nilFunc], .other⟩ .nil .nil) (.node 258 ⟨1, 4, [.int .i32 0], (.int .i32)⟩ .nil .nil)) (.node 261 ⟨11, 48, [.int .u64 0, .int .u64 0, .int .u32 0, .int .u8 0, .int .u8 0, .int .u8 0, .int .u8 0, .nilFunc, .pointer none, .int .i32 0, .int .i32 0], (.struct [(0, 1), (1, 1), (2, 1), (3, 1), (4, 1), (5, 1), (6, 1), (7, 1), (8, 1), (9, 1), (10, 1)])⟩ (.node 260 ⟨11, 48, [.int .u64 0, .int .u64 0, .int .u32 0, .int .u8 0, .int .u8 0, .int .u8 0, .int .u8 0, .nilFunc, .pointer none, .int .i32 0, .int .i32 0], (.struct [(0, 1), (1, 1), (2, 1), (3, 1), (4, 1), (5, 1), (6, 1), (7, 1), (8, 1), (9, 1), (10, 1)])⟩ .nil .nil) .nil)))))))
set_option maxRecDepth 100000 in
theorem tabOkB : tab.okB Try.prog = true := by kernel_rfl
theorem tok : TabOk Try.prog tab := tab_ok tabOkB
end Go.Proofs.Ytllgibfmddihgaa
namespace Go.Proofs.Ytllgibfmddihgaa
open Go.RowKit
inductive V where
  | mk (kind num : Int) (text : ByteArray) (args : List V)
mutual
def V.ts : V → List T
  | .mk k n t l => [.lit (.int .i64 k), .lit (.int .i64 n), .lit (.string t), .row l.length 4 (V.all l)]
def V.all : List V → List T
  | [] => []
  | v :: r => v.ts ++ V.all r
end
theorem V.all_eq : ∀ l : List V, V.all l = l.flatMap V.ts
  | [] => rfl
  | v :: l => by rw [V.all, V.all_eq l]; rfl
theorem V.ts_len : ∀ v : V, v.ts.length = 4
  | .mk _ _ _ _ => rfl
def V.row (l : List V) : T := .row l.length 4 (V.all l)
def V.t (v : V) : T := .agg v.ts
mutual
def V.same : V → V → Bool
  | .mk k n t l, .mk k' n' t' l' => decide (k = k') && decide (n = n') && decide (t = t') && V.sames l l'
def V.sames : List V → List V → Bool
  | [], [] => true
  | v :: l, v' :: l' => v.same v' && V.sames l l'
  | _, _ => false
end
theorem V.at {l : List V} {k : Nat} {v : V} (h : l[k]? = some v) : ((V.all l).drop (k * 4)).take 4 = v.ts := by rw [V.all_eq]; exact flat_at V.ts 4 V.ts_len h
/-- all pairs up to the first that is not alike -/
def eqBy {α β : Type} (p : α → β → Bool) : List α → List β → Bool
  | [], [] => true
  | a :: l, b :: r => p a b && eqBy p l r
  | _, _ => false
theorem eqBy_len {α β : Type} {p : α → β → Bool} : ∀ {l : List α} {r : List β}, l.length ≠ r.length → eqBy p l r = false
  | [], [], h => absurd rfl h
  | [], _ :: _, _ => rfl
  | _ :: _, [], _ => rfl
  | a :: l, b :: r, h => by rw [eqBy, eqBy_len (by simpa using h), Bool.and_false]
theorem eqBy_step {α β : Type} {p : α → β → Bool} {l : List α} {r : List β} {k : Nat} {a : α} {b : β} (ha : l[k]? = some a) (hb : r[k]? = some b) : eqBy p (l.drop k) (r.drop k) = (p a b && eqBy p (l.drop (k + 1)) (r.drop (k + 1))) := by
  obtain ⟨h1, rfl⟩ := List.getElem?_eq_some_iff.1 ha
  obtain ⟨h2, rfl⟩ := List.getElem?_eq_some_iff.1 hb
  rw [List.drop_eq_getElem_cons h1, List.drop_eq_getElem_cons h2, eqBy]
mutual
def V.size : V → Nat
  | .mk _ _ _ l => V.sizes l + 1
def V.sizes : List V → Nat
  | [] => 0
  | v :: r => v.size + V.sizes r
end
theorem V.size_mem {v : V} : ∀ {l : List V}, v ∈ l → v.size ≤ V.sizes l
  | [], h => by simp at h
  | x :: l, h => by
    simp only [V.sizes]
    rcases List.mem_cons.1 h with rfl | h
    · omega
    · have := V.size_mem h; omega
theorem V.ind {P : V → Prop} (h : ∀ k n t l, (∀ v ∈ l, P v) → P (.mk k n t l)) : ∀ v, P v := by
  have : ∀ (N : Nat) (v : V), v.size ≤ N → P v := by
    intro N
    induction N with
    | zero => intro v hv; cases v; simp [V.size] at hv
    | succ N ih =>
      intro v hv
      cases v with
      | mk k n t l =>
        refine h k n t l fun x hx => ih x ?_
        have := V.size_mem hx
        simp only [V.size] at hv
        omega
  exact fun v => this v.size v (Nat.le_refl _)
end Go.Proofs.Ytllgibfmddihgaa
namespace Go.Proofs.Ytllgibfmddihgaa
open Go.RowKit
theorem V.all_app (l r : List V) : V.all (l ++ r) = V.all l ++ V.all r := by simp [V.all_eq]
theorem V.all_one (v : V) : V.all [v] = v.ts := by simp [V.all]
theorem V.all_snoc {l : List V} {k : Nat} {a : V} (h : l[k]? = some a) : V.all (l.take (k + 1)) = V.all (l.take k) ++ a.ts := by
  obtain ⟨h1, rfl⟩ := List.getElem?_eq_some_iff.1 h
  rw [List.take_succ_eq_append_getElem h1, V.all_app, V.all_one]
end Go.Proofs.Ytllgibfmddihgaa
namespace Go.Proofs.Ytllgibfmddihgaa
open Go.RowKit
theorem nth {α : Type} {l : List α} {k : Nat} (h : k < l.length) : ∃ a, l[k]? = some a := ⟨_, List.getElem?_eq_getElem h⟩
def V.args : V → List V
  | .mk _ _ _ l => l
theorem flat_snoc' {α β : Type} (f : α → List β) {l : List α} {k : Nat} {a : α} (h : l[k]? = some a) : (l.take (k + 1)).flatMap f = (l.take k).flatMap f ++ f a := by
  obtain ⟨h1, rfl⟩ := List.getElem?_eq_some_iff.1 h
  rw [List.take_succ_eq_append_getElem h1, List.flatMap_append]
  simp
end Go.Proofs.Ytllgibfmddihgaa
namespace Go.Proofs.Ytllgibfmddihgaa
open Go.RowKit
inductive Y where
  | mk (kind : Int) (name : ByteArray) (args : List Y)
mutual
def Y.ts : Y → List T
  | .mk k n l => [.lit (.int .i64 k), .lit (.string n), .row l.length 3 (Y.all l)]
def Y.all : List Y → List T
  | [] => []
  | v :: r => v.ts ++ Y.all r
end
theorem Y.all_eq : ∀ l : List Y, Y.all l = l.flatMap Y.ts
  | [] => rfl
  | v :: l => by rw [Y.all, Y.all_eq l]; rfl
theorem Y.ts_len : ∀ v : Y, v.ts.length = 3
  | .mk _ _ _ => rfl
def Y.row (l : List Y) : T := .row l.length 3 (Y.all l)
def Y.t (v : Y) : T := .agg v.ts
theorem Y.at {l : List Y} {k : Nat} {v : Y} (h : l[k]? = some v) : ((Y.all l).drop (k * 3)).take 3 = v.ts := by rw [Y.all_eq]; exact flat_at Y.ts 3 Y.ts_len h
theorem Y.all_app (l r : List Y) : Y.all (l ++ r) = Y.all l ++ Y.all r := by simp [Y.all_eq]
theorem Y.all_one (v : Y) : Y.all [v] = v.ts := by simp [Y.all]
mutual
def Y.size : Y → Nat
  | .mk _ n l => Y.sizes l + n.size + 1
def Y.sizes : List Y → Nat
  | [] => 0
  | v :: r => v.size + Y.sizes r
end
theorem Y.size_mem {v : Y} : ∀ {l : List Y}, v ∈ l → v.size ≤ Y.sizes l
  | [], h => by simp at h
  | x :: l, h => by
    simp only [Y.sizes]
    rcases List.mem_cons.1 h with rfl | h
    · omega
    · have := Y.size_mem h; omega
theorem Y.sizes_sum : ∀ l : List Y, Y.sizes l = (l.map Y.size).sum
  | [] => rfl
  | v :: l => by simp [Y.sizes, Y.sizes_sum l]
instance : Inhabited Y := ⟨.mk 0 ⟨#[]⟩ []⟩
theorem Y.ind {P : Y → Prop} (h : ∀ k n l, (∀ v ∈ l, P v) → P (.mk k n l)) : ∀ v, P v := by
  have : ∀ (N : Nat) (v : Y), v.size ≤ N → P v := by
    intro N
    induction N with
    | zero => intro v hv; cases v; simp [Y.size] at hv
    | succ N ih =>
      intro v hv
      cases v with
      | mk k n l =>
        refine h k n l fun x hx => ih x ?_
        have := Y.size_mem hx
        simp only [Y.size] at hv
        omega
  exact fun v => this _ v (Nat.le_refl _)
def Y.args : Y → List Y
  | .mk _ _ l => l
end Go.Proofs.Ytllgibfmddihgaa
namespace Go.Proofs.Ytllgibfmddihgaa
open Go.RowKit
mutual
inductive Ex where
  | mk (kind num : Int) (text : ByteArray) (names : List ByteArray) (types : List Y) (args : List Ex) (arms : List Ar) (pos : Int)
inductive Ar where
  | mk (pat : V) (body : Ex)
end
mutual
def Ex.ts : Ex → List T
  | .mk k n t ns ys l rs a => [.lit (.int .i64 k), .lit (.int .i64 n), .lit (.string t), strRow ns, Y.row ys, .row l.length 8 (Ex.all l), .row rs.length 12 (Ar.all rs), .lit (.int .i64 a)]
def Ex.all : List Ex → List T
  | [] => []
  | v :: r => v.ts ++ Ex.all r
def Ar.ts : Ar → List T
  | .mk p b => p.ts ++ b.ts
def Ar.all : List Ar → List T
  | [] => []
  | v :: r => v.ts ++ Ar.all r
end
theorem Ex.all_eq : ∀ l : List Ex, Ex.all l = l.flatMap Ex.ts
  | [] => rfl
  | v :: l => by rw [Ex.all, Ex.all_eq l]; rfl
theorem Ar.all_eq : ∀ l : List Ar, Ar.all l = l.flatMap Ar.ts
  | [] => rfl
  | v :: l => by rw [Ar.all, Ar.all_eq l]; rfl
theorem Ex.ts_len : ∀ v : Ex, v.ts.length = 8
  | .mk _ _ _ _ _ _ _ _ => rfl
theorem Ar.ts_len : ∀ v : Ar, v.ts.length = 12
  | .mk p b => by rw [Ar.ts, List.length_append, V.ts_len, Ex.ts_len]
def Ex.row (l : List Ex) : T := .row l.length 8 (Ex.all l)
def Ex.t (v : Ex) : T := .agg v.ts
def Ar.row (l : List Ar) : T := .row l.length 12 (Ar.all l)
theorem Ex.at {l : List Ex} {k : Nat} {v : Ex} (h : l[k]? = some v) : ((Ex.all l).drop (k * 8)).take 8 = v.ts := by rw [Ex.all_eq]; exact flat_at Ex.ts 8 Ex.ts_len h
theorem Ar.at {l : List Ar} {k : Nat} {v : Ar} (h : l[k]? = some v) : ((Ar.all l).drop (k * 12)).take 12 = v.ts := by rw [Ar.all_eq]; exact flat_at Ar.ts 12 Ar.ts_len h
theorem Ex.all_app (l r : List Ex) : Ex.all (l ++ r) = Ex.all l ++ Ex.all r := by simp [Ex.all_eq]
theorem Ex.all_one (v : Ex) : Ex.all [v] = v.ts := by simp [Ex.all]
theorem V.all_app' (l r : List V) : V.all (l ++ r) = V.all l ++ V.all r := by simp [V.all_eq]
def strSize (l : List ByteArray) : Nat := (l.map fun s => s.size + 1).sum
mutual
def Ex.size : Ex → Nat
  | .mk _ _ t ns ys l rs _ => t.size + strSize ns + Y.sizes ys + Ex.sizes l + Ar.sizes rs + 1
def Ex.sizes : List Ex → Nat
  | [] => 0
  | v :: r => v.size + Ex.sizes r
def Ar.size : Ar → Nat
  | .mk p b => p.size + b.size
def Ar.sizes : List Ar → Nat
  | [] => 0
  | v :: r => v.size + Ar.sizes r
end
theorem Ex.sizes_sum : ∀ l : List Ex, Ex.sizes l = (l.map Ex.size).sum
  | [] => rfl
  | v :: l => by simp [Ex.sizes, Ex.sizes_sum l]
theorem Ar.sizes_sum : ∀ l : List Ar, Ar.sizes l = (l.map Ar.size).sum
  | [] => rfl
  | v :: l => by simp [Ar.sizes, Ar.sizes_sum l]
theorem sum_mem' {α : Type} (μ : α → Nat) : ∀ {l : List α} {a : α}, a ∈ l → μ a ≤ (l.map μ).sum
  | [], _, h => by simp at h
  | x :: l, a, h => by
    simp only [List.map_cons, List.sum_cons]
    rcases List.mem_cons.1 h with rfl | h
    · omega
    · have := sum_mem' μ h; omega
theorem len_sum' {α : Type} (μ : α → Nat) (h : ∀ a, 1 ≤ μ a) : ∀ l : List α, l.length ≤ (l.map μ).sum
  | [] => by simp
  | x :: l => by have := h x; have := len_sum' μ h l; simp only [List.map_cons, List.sum_cons, List.length_cons]; omega
theorem Ex.size_mem {v : Ex} {l : List Ex} (h : v ∈ l) : v.size ≤ Ex.sizes l := by rw [Ex.sizes_sum]; exact sum_mem' Ex.size h
theorem Ar.size_mem {v : Ar} {l : List Ar} (h : v ∈ l) : v.size ≤ Ar.sizes l := by rw [Ar.sizes_sum]; exact sum_mem' Ar.size h
theorem Ex.size_pos : ∀ v : Ex, 1 ≤ v.size
  | .mk _ _ _ _ _ _ _ _ => by simp only [Ex.size]; omega
theorem Ar.size_pos : ∀ v : Ar, 1 ≤ v.size
  | .mk p b => by have := b.size_pos; simp only [Ar.size]; omega
instance : Inhabited Ex := ⟨.mk 0 0 ⟨#[]⟩ [] [] [] [] 0⟩
instance : Inhabited Ar := ⟨.mk (.mk 0 0 ⟨#[]⟩ []) default⟩
structure Us where
  name : ByteArray
  low : Int
  high : Int
def Us.ts : Us → List T
  | ⟨f_name, f_low, f_high⟩ => [.lit (.string f_name), .lit (.int .i64 f_low), .lit (.int .i64 f_high)]
theorem Us.ts_len (x : Us) : x.ts.length = 3 := by simp [Us.ts]
def Us.t (x : Us) : T := .agg x.ts
def Us.row (l : List Us) : T := .row l.length 3 (l.flatMap Us.ts)
theorem Us.at {l : List Us} {k : Nat} {x : Us} (h : l[k]? = some x) : ((l.flatMap Us.ts).drop (k * 3)).take 3 = x.ts := flat_at Us.ts 3 Us.ts_len h
def Us.size : Us → Nat
  | ⟨f_name, _, _⟩ => f_name.size + 1
def Us.sizes (l : List Us) : Nat := (l.map Us.size).sum
theorem Us.size_mem {x : Us} {l : List Us} (h : x ∈ l) : x.size ≤ Us.sizes l := sum_mem' Us.size h
instance : Inhabited Us := ⟨⟨⟨#[]⟩, 0, 0⟩⟩
structure Mk where
  name : ByteArray
  args : List Y
def Mk.ts : Mk → List T
  | ⟨f_name, f_args⟩ => [.lit (.string f_name), Y.row f_args]
theorem Mk.ts_len (x : Mk) : x.ts.length = 2 := by simp [Mk.ts]
def Mk.t (x : Mk) : T := .agg x.ts
def Mk.row (l : List Mk) : T := .row l.length 2 (l.flatMap Mk.ts)
theorem Mk.at {l : List Mk} {k : Nat} {x : Mk} (h : l[k]? = some x) : ((l.flatMap Mk.ts).drop (k * 2)).take 2 = x.ts := flat_at Mk.ts 2 Mk.ts_len h
def Mk.size : Mk → Nat
  | ⟨f_name, f_args⟩ => f_name.size + Y.sizes f_args + 1
def Mk.sizes (l : List Mk) : Nat := (l.map Mk.size).sum
theorem Mk.size_mem {x : Mk} {l : List Mk} (h : x ∈ l) : x.size ≤ Mk.sizes l := sum_mem' Mk.size h
instance : Inhabited Mk := ⟨⟨⟨#[]⟩, []⟩⟩
structure Da where
  name : ByteArray
  params : List ByteArray
  makes : List Mk
def Da.ts : Da → List T
  | ⟨f_name, f_params, f_makes⟩ => [.lit (.string f_name), strRow f_params, Mk.row f_makes]
theorem Da.ts_len (x : Da) : x.ts.length = 3 := by simp [Da.ts]
def Da.t (x : Da) : T := .agg x.ts
def Da.row (l : List Da) : T := .row l.length 3 (l.flatMap Da.ts)
theorem Da.at {l : List Da} {k : Nat} {x : Da} (h : l[k]? = some x) : ((l.flatMap Da.ts).drop (k * 3)).take 3 = x.ts := flat_at Da.ts 3 Da.ts_len h
def Da.size : Da → Nat
  | ⟨f_name, f_params, f_makes⟩ => f_name.size + strSize f_params + Mk.sizes f_makes + 1
def Da.sizes (l : List Da) : Nat := (l.map Da.size).sum
theorem Da.size_mem {x : Da} {l : List Da} (h : x ∈ l) : x.size ≤ Da.sizes l := sum_mem' Da.size h
instance : Inhabited Da := ⟨⟨⟨#[]⟩, [], []⟩⟩
structure Fu where
  name : ByteArray
  params : List ByteArray
  names : List ByteArray
  types : List Y
  out : Y
  body : Ex
def Fu.ts : Fu → List T
  | ⟨f_name, f_params, f_names, f_types, f_out, f_body⟩ => [.lit (.string f_name), strRow f_params, strRow f_names, Y.row f_types] ++ f_out.ts ++ f_body.ts
theorem Fu.ts_len (x : Fu) : x.ts.length = 15 := by simp [Fu.ts, Ex.ts_len, Y.ts_len]
def Fu.t (x : Fu) : T := .agg x.ts
def Fu.row (l : List Fu) : T := .row l.length 15 (l.flatMap Fu.ts)
theorem Fu.at {l : List Fu} {k : Nat} {x : Fu} (h : l[k]? = some x) : ((l.flatMap Fu.ts).drop (k * 15)).take 15 = x.ts := flat_at Fu.ts 15 Fu.ts_len h
def Fu.size : Fu → Nat
  | ⟨f_name, f_params, f_names, f_types, f_out, f_body⟩ => f_name.size + strSize f_params + strSize f_names + Y.sizes f_types + f_out.size + f_body.size + 1
def Fu.sizes (l : List Fu) : Nat := (l.map Fu.size).sum
theorem Fu.size_mem {x : Fu} {l : List Fu} (h : x ∈ l) : x.size ≤ Fu.sizes l := sum_mem' Fu.size h
instance : Inhabited Fu := ⟨⟨⟨#[]⟩, [], [], [], default, default⟩⟩
structure Tr where
  name : ByteArray
  funcs : List Fu
def Tr.ts : Tr → List T
  | ⟨f_name, f_funcs⟩ => [.lit (.string f_name), Fu.row f_funcs]
theorem Tr.ts_len (x : Tr) : x.ts.length = 2 := by simp [Tr.ts]
def Tr.t (x : Tr) : T := .agg x.ts
def Tr.row (l : List Tr) : T := .row l.length 2 (l.flatMap Tr.ts)
theorem Tr.at {l : List Tr} {k : Nat} {x : Tr} (h : l[k]? = some x) : ((l.flatMap Tr.ts).drop (k * 2)).take 2 = x.ts := flat_at Tr.ts 2 Tr.ts_len h
def Tr.size : Tr → Nat
  | ⟨f_name, f_funcs⟩ => f_name.size + Fu.sizes f_funcs + 1
def Tr.sizes (l : List Tr) : Nat := (l.map Tr.size).sum
theorem Tr.size_mem {x : Tr} {l : List Tr} (h : x ∈ l) : x.size ≤ Tr.sizes l := sum_mem' Tr.size h
instance : Inhabited Tr := ⟨⟨⟨#[]⟩, []⟩⟩
structure Im where
  trait : ByteArray
  dat : ByteArray
  funcs : List Fu
def Im.ts : Im → List T
  | ⟨f_trait, f_dat, f_funcs⟩ => [.lit (.string f_trait), .lit (.string f_dat), Fu.row f_funcs]
theorem Im.ts_len (x : Im) : x.ts.length = 3 := by simp [Im.ts]
def Im.t (x : Im) : T := .agg x.ts
def Im.row (l : List Im) : T := .row l.length 3 (l.flatMap Im.ts)
theorem Im.at {l : List Im} {k : Nat} {x : Im} (h : l[k]? = some x) : ((l.flatMap Im.ts).drop (k * 3)).take 3 = x.ts := flat_at Im.ts 3 Im.ts_len h
def Im.size : Im → Nat
  | ⟨f_trait, f_dat, f_funcs⟩ => f_trait.size + f_dat.size + Fu.sizes f_funcs + 1
def Im.sizes (l : List Im) : Nat := (l.map Im.size).sum
theorem Im.size_mem {x : Im} {l : List Im} (h : x ∈ l) : x.size ≤ Im.sizes l := sum_mem' Im.size h
instance : Inhabited Im := ⟨⟨⟨#[]⟩, ⟨#[]⟩, []⟩⟩
structure Ac where
  name : ByteArray
  names : List ByteArray
  types : List Y
  msg : Y
  body : Ex
def Ac.ts : Ac → List T
  | ⟨f_name, f_names, f_types, f_msg, f_body⟩ => [.lit (.string f_name), strRow f_names, Y.row f_types] ++ f_msg.ts ++ f_body.ts
theorem Ac.ts_len (x : Ac) : x.ts.length = 14 := by simp [Ac.ts, Ex.ts_len, Y.ts_len]
def Ac.t (x : Ac) : T := .agg x.ts
def Ac.row (l : List Ac) : T := .row l.length 14 (l.flatMap Ac.ts)
theorem Ac.at {l : List Ac} {k : Nat} {x : Ac} (h : l[k]? = some x) : ((l.flatMap Ac.ts).drop (k * 14)).take 14 = x.ts := flat_at Ac.ts 14 Ac.ts_len h
def Ac.size : Ac → Nat
  | ⟨f_name, f_names, f_types, f_msg, f_body⟩ => f_name.size + strSize f_names + Y.sizes f_types + f_msg.size + f_body.size + 1
def Ac.sizes (l : List Ac) : Nat := (l.map Ac.size).sum
theorem Ac.size_mem {x : Ac} {l : List Ac} (h : x ∈ l) : x.size ≤ Ac.sizes l := sum_mem' Ac.size h
instance : Inhabited Ac := ⟨⟨⟨#[]⟩, [], [], default, default⟩⟩
structure Pr where
  name : ByteArray
  version : Int
  uses : List Us
  datas : List Da
  traits : List Tr
  impls : List Im
  funcs : List Fu
  actors : List Ac
def Pr.ts : Pr → List T
  | ⟨f_name, f_version, f_uses, f_datas, f_traits, f_impls, f_funcs, f_actors⟩ => [.lit (.string f_name), .lit (.int .i64 f_version), Us.row f_uses, Da.row f_datas, Tr.row f_traits, Im.row f_impls, Fu.row f_funcs, Ac.row f_actors]
theorem Pr.ts_len (x : Pr) : x.ts.length = 8 := by simp [Pr.ts]
def Pr.t (x : Pr) : T := .agg x.ts
def Pr.row (l : List Pr) : T := .row l.length 8 (l.flatMap Pr.ts)
theorem Pr.at {l : List Pr} {k : Nat} {x : Pr} (h : l[k]? = some x) : ((l.flatMap Pr.ts).drop (k * 8)).take 8 = x.ts := flat_at Pr.ts 8 Pr.ts_len h
def Pr.size : Pr → Nat
  | ⟨f_name, _, f_uses, f_datas, f_traits, f_impls, f_funcs, f_actors⟩ => f_name.size + Us.sizes f_uses + Da.sizes f_datas + Tr.sizes f_traits + Im.sizes f_impls + Fu.sizes f_funcs + Ac.sizes f_actors + 1
def Pr.sizes (l : List Pr) : Nat := (l.map Pr.size).sum
theorem Pr.size_mem {x : Pr} {l : List Pr} (h : x ∈ l) : x.size ≤ Pr.sizes l := sum_mem' Pr.size h
instance : Inhabited Pr := ⟨⟨⟨#[]⟩, 0, [], [], [], [], [], []⟩⟩
end Go.Proofs.Ytllgibfmddihgaa
namespace Go.Proofs.Ytllgibfmddihgaa
open Go.RowKit
def inI (n : Int) : Prop := -9223372036854775808 ≤ n ∧ n ≤ 9223372036854775807
instance (n : Int) : Decidable (inI n) := by unfold inI; infer_instance
/-- a number, heavy where it is out of range -/
def far (n : Int) : Nat := if inI n then 1 else 1099511627776
theorem far_pos (n : Int) : 1 ≤ far n := by unfold far; split <;> omega
mutual
def Y.mass : Y → Nat
  | .mk k n l => far k + (n.size + 1) + (Y.masses l + 1)
def Y.masses : List Y → Nat
  | [] => 0
  | v :: r => v.mass + Y.masses r
end
mutual
def Y.ok : Y → Prop
  | .mk k _ l => inI k ∧ Y.oks l
def Y.oks : List Y → Prop
  | [] => True
  | v :: r => v.ok ∧ Y.oks r
end
theorem Y.masses_sum : ∀ l : List Y, Y.masses l = (l.map Y.mass).sum
  | [] => rfl
  | v :: l => by simp [Y.masses, Y.masses_sum l]
theorem V.size_pos : ∀ v : V, 1 ≤ v.size
  | .mk _ _ _ _ => by simp only [V.size]; omega
mutual
def V.mass : V → Nat
  | .mk k n t l => far k + far n + (t.size + 1) + (V.masses l + 1)
def V.masses : List V → Nat
  | [] => 0
  | v :: r => v.mass + V.masses r
end
mutual
def V.ok : V → Prop
  | .mk k n _ l => inI k ∧ inI n ∧ V.oks l
def V.oks : List V → Prop
  | [] => True
  | v :: r => v.ok ∧ V.oks r
end
theorem V.masses_sum : ∀ l : List V, V.masses l = (l.map V.mass).sum
  | [] => rfl
  | v :: l => by simp [V.masses, V.masses_sum l]
mutual
def Ex.mass : Ex → Nat
  | .mk k n t ns ys l rs a => far k + far n + (t.size + 1) + (strSize ns + 1) + (Y.masses ys + 1) + (Ex.masses l + 1) + (Ar.masses rs + 1) + far a
def Ex.masses : List Ex → Nat
  | [] => 0
  | v :: r => v.mass + Ex.masses r
def Ar.mass : Ar → Nat
  | .mk p b => p.mass + b.mass
def Ar.masses : List Ar → Nat
  | [] => 0
  | v :: r => v.mass + Ar.masses r
end
mutual
def Ex.ok : Ex → Prop
  | .mk k n _ _ ys l rs a => inI k ∧ inI n ∧ Y.oks ys ∧ Ex.oks l ∧ Ar.oks rs ∧ inI a
def Ex.oks : List Ex → Prop
  | [] => True
  | v :: r => v.ok ∧ Ex.oks r
def Ar.ok : Ar → Prop
  | .mk p b => p.ok ∧ b.ok
def Ar.oks : List Ar → Prop
  | [] => True
  | v :: r => v.ok ∧ Ar.oks r
end
theorem Ex.masses_sum : ∀ l : List Ex, Ex.masses l = (l.map Ex.mass).sum
  | [] => rfl
  | v :: l => by simp [Ex.masses, Ex.masses_sum l]
theorem Ar.masses_sum : ∀ l : List Ar, Ar.masses l = (l.map Ar.mass).sum
  | [] => rfl
  | v :: l => by simp [Ar.masses, Ar.masses_sum l]
theorem Ex.ind {P : Ex → Prop} (h : ∀ k n t ns ys l rs a, (∀ v ∈ l, P v) → (∀ r ∈ rs, ∀ p b, r = Ar.mk p b → P b) → P (.mk k n t ns ys l rs a)) : ∀ v, P v := by
  have : ∀ (N : Nat) (v : Ex), v.size ≤ N → P v := by
    intro N
    induction N with
    | zero => intro v hv; have := v.size_pos; omega
    | succ N ih =>
      intro v hv
      cases v with
      | mk k n t ns ys l rs a =>
        simp only [Ex.size] at hv
        refine h k n t ns ys l rs a (fun x hx => ih x ?_) (fun r hr p b e => ih b ?_)
        · have := Ex.size_mem hx
          omega
        · have := Ar.size_mem hr
          subst e
          have hp := p.size_pos
          simp only [Ar.size] at this
          omega
  exact fun v => this v.size v (Nat.le_refl _)
def Us.mass (x : Us) : Nat := (x.name.size + 1) + far x.low + far x.high
def Us.ok (x : Us) : Prop := inI x.low ∧ inI x.high
def Mk.mass (x : Mk) : Nat := (x.name.size + 1) + ((x.args.map Y.mass).sum + 1)
def Mk.ok (x : Mk) : Prop := (∀ a ∈ x.args, a.ok)
def Da.mass (x : Da) : Nat := (x.name.size + 1) + (strSize x.params + 1) + ((x.makes.map Mk.mass).sum + 1)
def Da.ok (x : Da) : Prop := (∀ a ∈ x.makes, a.ok)
def Fu.mass (x : Fu) : Nat := (x.name.size + 1) + (strSize x.params + 1) + (strSize x.names + 1) + ((x.types.map Y.mass).sum + 1) + x.out.mass + x.body.mass
def Fu.ok (x : Fu) : Prop := (∀ a ∈ x.types, a.ok) ∧ x.out.ok ∧ x.body.ok
def Tr.mass (x : Tr) : Nat := (x.name.size + 1) + ((x.funcs.map Fu.mass).sum + 1)
def Tr.ok (x : Tr) : Prop := (∀ a ∈ x.funcs, a.ok)
def Im.mass (x : Im) : Nat := (x.trait.size + 1) + (x.dat.size + 1) + ((x.funcs.map Fu.mass).sum + 1)
def Im.ok (x : Im) : Prop := (∀ a ∈ x.funcs, a.ok)
def Ac.mass (x : Ac) : Nat := (x.name.size + 1) + (strSize x.names + 1) + ((x.types.map Y.mass).sum + 1) + x.msg.mass + x.body.mass
def Ac.ok (x : Ac) : Prop := (∀ a ∈ x.types, a.ok) ∧ x.msg.ok ∧ x.body.ok
def Pr.mass (x : Pr) : Nat := (x.name.size + 1) + far x.version + ((x.uses.map Us.mass).sum + 1) + ((x.datas.map Da.mass).sum + 1) + ((x.traits.map Tr.mass).sum + 1) + ((x.impls.map Im.mass).sum + 1) + ((x.funcs.map Fu.mass).sum + 1) + ((x.actors.map Ac.mass).sum + 1)
def Pr.ok (x : Pr) : Prop := inI x.version ∧ (∀ a ∈ x.uses, a.ok) ∧ (∀ a ∈ x.datas, a.ok) ∧ (∀ a ∈ x.traits, a.ok) ∧ (∀ a ∈ x.impls, a.ok) ∧ (∀ a ∈ x.funcs, a.ok) ∧ (∀ a ∈ x.actors, a.ok)
end Go.Proofs.Ytllgibfmddihgaa
namespace Go.Proofs.Ytllgibfmddihgaa
open Go.RowKit
structure Code {α : Type} (enc : α → List UInt8) (eq : α → α → Bool) (a : α) : Prop where
  to : ∀ b, eq a b = true → enc a = enc b
  of : ∀ b r s, enc a ++ r = enc b ++ s → eq a b = true ∧ r = s
def eqStr (x y : ByteArray) : Bool := decide (x = y)
mutual
def Y.same : Y → Y → Bool
  | .mk k n l, .mk k' n' l' => decide (k = k') && (decide (n = n') && Y.sames l l')
def Y.sames : List Y → List Y → Bool
  | [], [] => true
  | a :: l, b :: r => a.same b && Y.sames l r
  | [], _ :: _ => false
  | _ :: _, [] => false
end
mutual
def V.alike : V → V → Bool
  | .mk k n t l, .mk k' n' t' l' => decide (k = k') && (decide (n = n') && (decide (t = t') && V.alikes l l'))
def V.alikes : List V → List V → Bool
  | [], [] => true
  | a :: l, b :: r => a.alike b && V.alikes l r
  | [], _ :: _ => false
  | _ :: _, [] => false
end
mutual
def Ex.same : Ex → Ex → Bool
  | .mk k n t ns ys l rs _, .mk k' n' t' ns' ys' l' rs' _ => decide (k = k') && (decide (n = n') && (decide (t = t') && (eqBy eqStr ns ns' && (eqBy Y.same ys ys' && (Ex.sames l l' && Ar.sames rs rs')))))
def Ex.sames : List Ex → List Ex → Bool
  | [], [] => true
  | a :: l, b :: r => a.same b && Ex.sames l r
  | [], _ :: _ => false
  | _ :: _, [] => false
def Ar.same : Ar → Ar → Bool
  | .mk p b, .mk p' b' => p.alike p' && b.same b'
def Ar.sames : List Ar → List Ar → Bool
  | [], [] => true
  | a :: l, b :: r => a.same b && Ar.sames l r
  | [], _ :: _ => false
  | _ :: _, [] => false
end
def Fu.same (f g : Fu) : Bool := decide (f.name = g.name) && (eqBy eqStr f.params g.params && (eqBy eqStr f.names g.names && (eqBy Y.same f.types g.types && (f.out.same g.out && f.body.same g.body))))
def Us.same (u v : Us) : Bool := decide (u.name = v.name) && (decide (u.low = v.low) && decide (u.high = v.high))
def Mk.same (m n : Mk) : Bool := decide (m.name = n.name) && eqBy Y.same m.args n.args
def Da.same (d e : Da) : Bool := decide (d.name = e.name) && (eqBy eqStr d.params e.params && eqBy Mk.same d.makes e.makes)
def Tr.same (t u : Tr) : Bool := decide (t.name = u.name) && eqBy Fu.same t.funcs u.funcs
def Im.same (t u : Im) : Bool := decide (t.trait = u.trait) && (decide (t.dat = u.dat) && eqBy Fu.same t.funcs u.funcs)
def Ac.same (x y : Ac) : Bool := decide (x.name = y.name) && (eqBy eqStr x.names y.names && (eqBy Y.same x.types y.types && (x.msg.same y.msg && x.body.same y.body)))
def Pr.same (p q : Pr) : Bool :=
  decide (p.name = q.name) && (decide (p.version = q.version) && (eqBy Us.same p.uses q.uses && (eqBy Da.same p.datas q.datas && (eqBy Tr.same p.traits q.traits && (eqBy Im.same p.impls q.impls && (eqBy Fu.same p.funcs q.funcs && eqBy Ac.same p.actors q.actors))))))
theorem Code.self {α : Type} {enc : α → List UInt8} {eq : α → α → Bool} {a : α} (h : Code enc eq a) : eq a a = true := (h.of a [] [] rfl).1
end Go.Proofs.Ytllgibfmddihgaa
namespace Go.Proofs.Ytllgibfmddihgaa
open Go.RowKit
set_option maxRecDepth 100000 in
set_option maxHeartbeats 1000000 in
theorem eqStrs_af (l r : List ByteArray) : AF Try.prog 39 [strRow l, strRow r] (· = .lit (.bool (eqBy eqStr l r))) := by
  refine af_enter tok Try.func39 Try.ntmps39 Try.results39 rfl (by kernel_rfl) rfl rfl fun F hX => ?_
  repeat (first | refine gG ?_ | refine zN1 (fun hlen => ?_) | refine zN2 (fun hlen => ?_))
  refine x_cond rfl (fun h => ?_) (fun h => ?_)
  · repeat (first | refine gG ?_ | refine zN1 (fun hlen => ?_) | refine zN2 (fun hlen => ?_))
    first | refine zR ?_ | refine zQ ?_
    have : l.length ≠ r.length := by have := h; simp at this; omega
    rw [eqBy_len this]
    rfl
  · have hlr : l.length = r.length := by have := h; simp at this; omega
    clear h
    repeat (first | refine gG ?_ | refine zN1 (fun hlen => ?_) | refine zN2 (fun hlen => ?_))
    refine x_loop [4, 5, 13, 14, 15, 16, 17, 18, 19, 20, 21, 22, 23, 24, 25] (fun k : Nat => [(13, .c (.lit (.int .i64 k)))]) (fun _ => []) (fun k => k ≤ l.length ∧ eqBy eqStr l r = eqBy eqStr (l.drop k) (r.drop k)) (fun k => l.length - k) 0 ⟨Nat.zero_le _, rfl⟩ ⟨rfl, trivial⟩ rfl fun k hk => ?_
    repeat (first | refine gG ?_ | refine zN1 (fun hlen => ?_) | refine zN2 (fun hlen => ?_))
    refine x_cond rfl (fun h => ?_) (fun h => ?_)
    · have hk' : k < l.length := by simpa using h
      have hk2 : k < r.length := hlr ▸ hk'
      obtain ⟨a, ha⟩ := nth hk'
      obtain ⟨b, hb⟩ := nth hk2
      have hstep : eqBy eqStr (l.drop k) (r.drop k) = (decide (a = b) && eqBy eqStr (l.drop (k + 1)) (r.drop (k + 1))) := eqBy_step ha hb
      have h1 : (l.flatMap strTs)[k * 1]? = some (.lit (.string a)) := by rw [Nat.mul_one]; exact str_at ha
      have h2 : (r.flatMap strTs)[k * 1]? = some (.lit (.string b)) := by rw [Nat.mul_one]; exact str_at hb
      clear h
      repeat (first | refine gG ?_ | refine zN1 (fun hlen => ?_) | refine zN2 (fun hlen => ?_))
      refine ac_draw [1, 1, 1, 1, 1, 1, 1, 1, 1] [0, 1, 2, 3, 4, 5, 6, 7, 8] (by kernel_rfl) (by kernel_rfl) ?_
      refine gW ?_
      apply w_q; (focus exact rfl); (focus exact rfl); focus (intro _; (refine zIx k hk' ?_); exact det_refl)
      apply w_q; (focus exact rfl); (focus exact rfl); focus (intro _; (refine zEl1 h1 ?_); exact det_refl)
      refine gW ?_
      apply w_q; (focus exact rfl); (focus exact rfl); focus (intro _; (refine zIx k hk2 ?_); exact det_refl)
      apply w_q; (focus exact rfl); (focus exact rfl); focus (intro _; (refine zEl1 h2 ?_); exact det_refl)
      refine gW ?_
      refine w_nil ?_
      cases d1 : decide (a = b)
      · repeat (first | refine gG ?_ | refine zN1 (fun hlen => ?_) | refine zN2 (fun hlen => ?_))
        first | refine zR ?_ | refine zQ ?_
        rw [hk.2, hstep, d1]
        rfl
      · repeat (first | refine gG ?_ | refine zN1 (fun hlen => ?_) | refine zN2 (fun hlen => ?_))
        exact ⟨k + 1, ⟨hk', by rw [hk.2, hstep, d1, Bool.true_and]⟩, by omega, x_wkd 0 ⟨rfl, trivial⟩ rfl (by repeat (first | exact ag_refl | refine ag_upd rfl ?_ | refine ag_at rfl rfl ?_))⟩
    · have hk' : k = l.length := by
        have : ¬ k < l.length := by simpa using h
        omega
      repeat (first | refine gG ?_ | refine zN1 (fun hlen => ?_) | refine zN2 (fun hlen => ?_))
      first | refine zR ?_ | refine zQ ?_
      rw [hk.2, hk', List.drop_length, hlr, List.drop_length]
      rfl
end Go.Proofs.Ytllgibfmddihgaa
