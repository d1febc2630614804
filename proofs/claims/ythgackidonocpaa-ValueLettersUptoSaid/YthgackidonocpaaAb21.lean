/-
  Abstract states: rows of bytes, strings out of them and into them; shifts and bits.
-/
import Derived.Test.YthgackidonocpaaAb20
import Derived.Lib.AppendStr
namespace Go.Proofs.Ythgackidonocpaa
open Go.RowKit Go.Lib

def bytT (b : UInt8) : T := .lit (.int .u8 (b.toNat : Int))
def byts (l : List UInt8) : List T := l.map bytT
def bytRow (l : List UInt8) : T := .row l.length 1 (byts l)
theorem byts_len (l : List UInt8) : (byts l).length = l.length := by simp [byts]
theorem byts_app (l r : List UInt8) : byts (l ++ r) = byts l ++ byts r := by simp [byts]
theorem rt_byts {M : Mm} : ∀ l : List UInt8, RTs M (byts l) (bvs l)
  | [] => by simp [byts, bvs, RTs]
  | b :: l => by
    simp only [byts, bvs, List.map_cons, RTs]
    exact ⟨_, _, rfl, by simp only [bytT, RT, bv], rt_byts l⟩
theorem byts_of {M : Mm} : ∀ {l : List UInt8} {xs : List Value}, RTs M (byts l) xs → xs = bvs l
  | [], _, h => by simpa [byts, RTs, bvs] using h
  | b :: l, _, h => by
    simp only [byts, List.map_cons, RTs] at h
    obtain ⟨x, r, rfl, h1, h2⟩ := h
    simp only [bytT, RT] at h1
    rw [h1, byts_of (l := l) h2]
    rfl
theorem rd_of_row {M : Mm} {w : World} (hm : MemOk M w) {l : List UInt8} {u : Value} (h : RT M (bytRow l) u) : ∃ A c, u = .slice A l.length c ∧ Rd w w.heap.size 1 A l.length (bvs l) := by
  simp only [bytRow, RT] at h
  obtain ⟨A, c, xs, h1, h2, h3, h4, h5, h6, h7⟩ := h
  obtain rfl := byts_of h7
  refine ⟨A, c, h1, h5, fun hn => ?_⟩
  obtain ⟨ad, h8, h9⟩ := h6 hn
  have hat : ∀ j u, (bvs l)[j]? = some u → w.cell? (ad.add j) = some u := fun j u hj => (hm _ _ (h9 j u hj)).1
  refine ⟨ad, h8, ?_, hat⟩
  obtain ⟨x, hx⟩ : ∃ x, (bvs l)[0]? = some x := ⟨_, List.getElem?_eq_getElem (by rw [bvs_len]; exact hn)⟩
  have := World.block_lt_of_cell? w _ (hat 0 x hx)
  rwa [add_block] at this
theorem strCells_eq (s : ByteArray) : strCells s = bvs s.data.toList := by
  simp [strCells, bvs, bv]

section
variable {P : Program} {F : Frm} {L : Tab} {d : Option Tmp} {ty : TypeId} {pos : String} {aft : Array Edge} {g : Option (Nat × Bool)} {ρ : Operand → AV} {hp : List Blk} {K : AV → List Blk → Prop}
variable {t t' u e : TypeId} {x y : Operand} {k k' : IntKind} {a b : Int}

/-! ### strings out of bytes, bytes out of strings -/
theorem lo_str {ti tu te : TI} {l : List UInt8} (hL : TabOk P L) (hx : ρ x = .c (bytRow l)) (hu : L.look u = some tu) (hud : tu.d = .slice e) (he : L.look e = some te) (hed : te.d = .int .u8) (ht : L.look t = some ti) (hd : ti.d = .string) (h : K (.c (.lit (.string ⟨l.toArray⟩))) hp) : LO P F ⟨d, .convert u t x, ty, pos, aft, g⟩ ρ hp K := by
  refine LO.same (fun M ev w hev hh => ?_) h
  have h1 := hev x (by first | (simp [Op.operands]; done) | simp [Op.operands, Call.operands])
  rw [hx] at h1
  simp only [RA] at h1
  obtain ⟨A, c, h2, h3⟩ := rd_of_row hh.mem h1
  have := run_string_rd (P := P) u t e (hL.slice hu hud) (hL.int he hed) (hL.string ht hd) c h3
  exact ⟨.string ⟨l.toArray⟩, by simp [execOp, h2, this], by simp only [RA, RT]⟩
theorem lo_str_own {ti tu te : TI} {i n : Nat} {v : Value} {e' : TypeId} {l : List UInt8} (hL : TabOk P L) (hx : ρ x = .own i v) (hi : hp[i]? = some (.row v e' 1 n (byts l))) (hu : L.look u = some tu) (hud : tu.d = .slice e) (he : L.look e = some te) (hed : te.d = .int .u8) (ht : L.look t = some ti) (hd : ti.d = .string) (h : K (.c (.lit (.string ⟨l.toArray⟩))) hp) : LO P F ⟨d, .convert u t x, ty, pos, aft, g⟩ ρ hp K := by
  refine LO.same (fun M ev w hev hh => ?_) h
  have h1 := hev x (by first | (simp [Op.operands]; done) | simp [Op.operands, Call.operands])
  rw [hx] at h1
  simp only [RA] at h1
  obtain ⟨xs, ho, hxs, _⟩ := hh.at_ i _ hi
  obtain rfl := byts_of hxs
  obtain ⟨A, c, rfl, _, _⟩ := own_shape ho
  have := run_string_rd (P := P) u t e (hL.slice hu hud) (hL.int he hed) (hL.string ht hd) c (Rd.of_own ho)
  exact ⟨.string ⟨l.toArray⟩, by simp [execOp, h1.1, this], by simp only [RA, RT]⟩
theorem lo_bytes {ti tu te : TI} {s : ByteArray} (hL : TabOk P L) (hx : ρ x = .c (.lit (.string s))) (hs : s.size ≤ maxLen) (hu : L.look u = some tu) (hud : tu.d = .string) (ht : L.look t = some ti) (hd : ti.d = .slice e) (he : L.look e = some te) (hed : te.d = .int .u8) (h : K (.c (bytRow s.data.toList)) hp) : LO P F ⟨d, .convert u t x, ty, pos, aft, g⟩ ρ hp K := by
  refine ⟨fun M ev w hev hh => ?_⟩
  have h1 := hev x (by first | (simp [Op.operands]; done) | simp [Op.operands, Call.operands])
  rw [hx] at h1
  simp only [RA, RT] at h1
  obtain ⟨c, w', h2, h3, h4, h5⟩ := run_bytes_rd (P := P) w u t e s.data.toList (hL.string hu hud) (hL.slice ht hd) (hL.int he hed)
  have hsz : s.data.toList.length = s.size := rfl
  have hrun : (execOp ev ⟨d, .convert u t x, ty, pos, aft, g⟩).run P w = .ok (.value (.slice (some ⟨w.heap.size, 0, none⟩) s.data.toList.length c)) w' := by
    simp [execOp, h1] at h2 ⊢
    simp [h2]
  rw [hrun]
  have hm0 := hh.mem.below h5
  have hM := frz_ext (M := M) w.heap.size w'
  refine ⟨frz M w.heap.size w', _, hp, h, (hM.low hh.frm.size), hh.below h5 hM (frz_ok hm0 _), ?_⟩
  simp only [RA, bytRow, RT]
  refine ⟨some ⟨w.heap.size, 0, none⟩, c, bvs s.data.toList, rfl, h3, by rw [hsz]; exact hs, by omega, by rw [bvs_len]; omega, fun hn => ⟨_, rfl, fun j u hj => ?_⟩, rt_byts _⟩
  obtain ⟨ad, e1, _, e2⟩ := h4.2 hn
  injection e1 with e1
  subst e1
  exact frz_new (mem_fresh hh.mem (by rw [add_block]; exact Nat.le_refl _)) (by rw [add_block]; exact Nat.le_refl _) (e2 j u hj) (bvs_one _ u (List.mem_of_getElem? hj))

/-! ### bits -/
theorem lo_shl {n : Int} (hx : ρ x = .c (.lit (.int k a))) (hy : ρ y = .c (.lit (.int k' n))) (h0 : 0 ≤ n) {r : Int} (hr : k.wrap (a * 2 ^ (min n.toNat k.bits)) = r) (h : K (.c (.lit (.int k r))) hp) : LO P F ⟨d, .binOp .shl t x y t', ty, pos, aft, g⟩ ρ hp K :=
  lo_bin hx hy guard_int (fun w => by simp only [binOp, Op.shift, if_neg (Int.not_lt.2 h0), hr, Sem.run_pure]) h
theorem lo_shr {n : Int} (hx : ρ x = .c (.lit (.int k a))) (hy : ρ y = .c (.lit (.int k' n))) (h0 : 0 ≤ n) {r : Int} (hr : a.fdiv (2 ^ (min n.toNat k.bits)) = r) (h : K (.c (.lit (.int k r))) hp) : LO P F ⟨d, .binOp .shr t x y t', ty, pos, aft, g⟩ ρ hp K :=
  lo_bin hx hy guard_int (fun w => by simp only [binOp, Op.shift, if_neg (Int.not_lt.2 h0), hr, Sem.run_pure]) h
theorem lo_or (hx : ρ x = .c (.lit (.int k a))) (hy : ρ y = .c (.lit (.int k b))) {r : Int} (hr : k.wrap (((a % 2 ^ k.bits).toNat ||| (b % 2 ^ k.bits).toNat : Nat) : Int) = r) (h : K (.c (.lit (.int k r))) hp) : LO P F ⟨d, .binOp .or t x y t', ty, pos, aft, g⟩ ρ hp K :=
  lo_bin hx hy guard_int (fun w => by simp [binOp, Op.intBits, hr]) h
theorem lo_and (hx : ρ x = .c (.lit (.int k a))) (hy : ρ y = .c (.lit (.int k b))) {r : Int} (hr : k.wrap (((a % 2 ^ k.bits).toNat &&& (b % 2 ^ k.bits).toNat : Nat) : Int) = r) (h : K (.c (.lit (.int k r))) hp) : LO P F ⟨d, .binOp .and t x y t', ty, pos, aft, g⟩ ρ hp K :=
  lo_bin hx hy guard_int (fun w => by simp [binOp, Op.intBits, hr]) h
theorem lo_xor (hx : ρ x = .c (.lit (.int k a))) (hy : ρ y = .c (.lit (.int k b))) {r : Int} (hr : k.wrap (((a % 2 ^ k.bits).toNat ^^^ (b % 2 ^ k.bits).toNat : Nat) : Int) = r) (h : K (.c (.lit (.int k r))) hp) : LO P F ⟨d, .binOp .xor t x y t', ty, pos, aft, g⟩ ρ hp K :=
  lo_bin hx hy guard_int (fun w => by simp [binOp, Op.intBits, hr]) h

/-! ### a string onto a row of bytes -/
theorem lo_app_str {ti tu te : TI} {i n : Nat} {v : Value} {cs : List T} {s : ByteArray} (hL : TabOk P L) (hx : ρ x = .own i v) (hi : hp[i]? = some (.row v e 1 n cs)) (hy : ρ y = .c (.lit (.string s))) (ht : L.look t = some ti) (hd : ti.d = .slice e) (hu : L.look u = some tu) (hud : tu.d = .string) (hte : L.look e = some te) (hsz : te.size = 1) (hby : te.bytes = 1) (hz : te.zero = [.int .u8 0]) (hag : te.agg = false)
    (h63 : n + s.size ≤ 140737488355328) (h : ∀ v', K (.own i v') (hp.set i (.row v' e 1 (n + s.size) (cs ++ byts s.data.toList)))) : LO P F ⟨d, .call { callee := .builtin .append, args := #[x, y], argTypes := #[t, u] }, ty, pos, aft, g⟩ ρ hp K := by
  refine ⟨fun M ev w hev hh => ?_⟩
  have h1 := hev x (by first | (simp [Op.operands]; done) | simp [Op.operands, Call.operands])
  rw [hx] at h1
  simp only [RA] at h1
  have h2 := hev y (by first | (simp [Op.operands]; done) | simp [Op.operands, Call.operands])
  rw [hy] at h2
  simp only [RA, RT] at h2
  obtain ⟨xs, ho, hxs, hone, hsz0⟩ := hh.at_ i _ hi
  obtain ⟨inf, zv, i1, i2, i3, i4, i5, i6, i7⟩ := hL.info hte
  have hzv : zv = .int .u8 0 := by
    rw [hag] at i7
    rw [hz] at i5
    cases zv <;> simp_all [Value.cells]
  have hml : n + s.size ≤ maxLen := by unfold maxLen; omega
  obtain ⟨v', w', g1, g2, g5, g6⟩ := run_append_own_string (P := P) w 0 t u ty e inf (hL.slice ht hd) (hL.string hu hud) i1 (by rw [i4, hzv]) (by rw [i2, hsz]) (by rw [i3, hby]) v n xs ho s hml h63 (Nat.zero_le _)
  have hrun : (execOp ev ⟨d, .call { callee := .builtin .append, args := #[x, y], argTypes := #[t, u] }, ty, pos, aft, g⟩).run P w = .ok (.value v') w' := by
    simp [execOp, resolve, invoke, builtin, h1.1, h2, g1]
  rw [hrun]
  have hwhere : v'.ownBlock = v.ownBlock ∨ v'.ownBlock = some w.heap.size := by
    rcases ho.2 with ⟨rfl, rfl⟩ | ⟨gb, cap, cur, rfl, _, hgb, hnc, hcm, hcs, htake⟩
    · by_cases h0 : s.size = 0
      · exact .inl (by rw [g6.2 ⟨rfl, h0⟩])
      · have hr := run_append_nil_string (P := P) w t u ty e inf zv (hL.slice ht hd) (hL.string hu hud) i1 i4 s (by omega) (by omega) (by rw [i3, hby]; omega)
        rw [hr] at g1
        injection g1 with e1 _
        exact .inr (by rw [← e1]; rfl)
    · by_cases hroom : n + s.size ≤ cap
      · have hcs' : cur.size = cap := by simpa using hcs
        have hr := run_append_room_string (P := P) w t u ty e inf (hL.slice ht hd) (hL.string hu hud) i1 (by rw [i2, hsz]) gb n cap cur hgb s hroom (by omega)
        rw [hr] at g1
        injection g1 with e1 _
        exact .inl (by rw [← e1]; rfl)
      · have hxl : xs.length = n := by simpa using ho.1
        have hr := run_append_grow_string (P := P) w t u ty e inf zv (hL.slice ht hd) (hL.string hu hud) i1 i4 ⟨gb, 0, none⟩ n cap xs (by rw [i2, hsz]; simpa using hxl) (ho.cells (g := gb) rfl) s (by omega) (by omega) (by rw [i3, hby]; have := nextslicecap_le (need := n + s.size) (old := cap) (by omega); omega)
        rw [hr] at g1
        injection g1 with e1 _
        exact .inr (by rw [← e1]; rfl)
  refine ⟨M, _, _, h v', Ext.refl _ _, ?_, by simp only [RA]; exact ⟨trivial, own_one g2⟩⟩
  refine hh.step i g5.os g5.tape g5.output g5.size (fun k hk hne => g5.block k hk (fun e => hne _ hi e.symm)) (Ext.refl _ _) (fun p v h1 h2 => by rw [h2] at h1; cases h1) (fun j hj => by rw [List.getElem?_set_ne (Ne.symm hj)]) (fun x' hx' => ?_)
  have hlt : i < hp.length := (List.getElem?_eq_some_iff.1 hi).1
  rw [List.getElem?_set_self hlt] at hx'
  obtain rfl : Blk.row v' e 1 (n + s.size) (cs ++ byts s.data.toList) = x' := by injection hx'
  rw [strCells_eq] at g2
  refine ⟨⟨_, g2, hxs.app (rt_byts _), hone.app (bvs_one _), by omega⟩, fun b hb => ?_⟩
  rcases hwhere with g6 | g6
  · exact .inl ⟨_, hi, by simpa [Blk.blk, g6] using hb⟩
  · obtain rfl : w.heap.size = b := by simpa [Blk.blk, g6] using hb
    exact .inr ⟨Nat.le_refl _, fun p hp => mem_fresh hh.mem (by omega)⟩
end

end Go.Proofs.Ythgackidonocpaa
